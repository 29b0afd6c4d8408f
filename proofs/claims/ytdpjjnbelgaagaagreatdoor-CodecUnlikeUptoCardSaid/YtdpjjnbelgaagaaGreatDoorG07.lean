/- pkg.May. Conditions: as each theorem names them. -/
import Derived.Test.YtdpjjnbelgaagaaGreatDoorG06
import Derived.Test.YtdpjjnbelgaagaaGreatDoorG05
import Derived.Deep.QuietTactic
import Derived.BigQuiet
namespace Go.Proofs.YtdpjjnbelgaagaaGreatDoor
open Go.ChangeShapes Go.WideShapes Go.ChangeAt Go.RowKit Go.Deep Go.Shelf
set_option maxRecDepth 100000
attribute [local go_sem] Oper.semAt_some

def PkgD.few (p : PkgD) : Prop := ∀ r, r = p.req ∨ r = p.con ∨ r = p.reco ∨ r = p.sup ∨ r = p.sug ∨ r = p.enh → ∀ x ∈ argL r, x.count ≤ 4611686018427387904
theorem load4 {w : World} {g : Nat} {v : Value} {t : TypeId} (hb : Blk w g t #[v]) : (loadVar 4 ⟨g, 0, none⟩).run Tryz.prog w = .ok v w := by
  have hc : w.cell? ⟨g, 0, none⟩ = some v := hb.cell 0
  have h1 := Tryz.isAgg4
  have h2 := Tryz.sizeOf4
  simp [go_sem, loadVar, h1, h2, hc]
/-- May's own blocks: the package, the result. -/
structure PSt (w : World) (g : Nat) (c : Array Value) (W : World) : Prop where
  bl : Below w.heap.size w W
  pb : Blk W g 29 c
  rb : Blk W (g + 1) 4 #[.bool false]
theorem PSt.facts {w W : World} {g : Nat} {c0 c1 c2 c3 c4 c5 c6 c7 c8 c9 c10 c11 c12 c13 c14 : Value} (h : PSt w g #[c0, c1, c2, c3, c4, c5, c6, c7, c8, c9, c10, c11, c12, c13, c14] W) : W.cell? ⟨g, 0, none⟩ = some c0 ∧ W.cell? ⟨g, 1, none⟩ = some c1 ∧ W.cell? ⟨g, 2, none⟩ = some c2 ∧ W.cell? ⟨g, 3, none⟩ = some c3 ∧ W.cell? ⟨g, 4, none⟩ = some c4 ∧ W.cell? ⟨g, 5, none⟩ = some c5 ∧ W.cell? ⟨g, 6, none⟩ = some c6 ∧ W.cell? ⟨g, 7, none⟩ = some c7 ∧ W.cell? ⟨g, 8, none⟩ = some c8 ∧ W.cell? ⟨g, 9, none⟩ = some c9 ∧ W.cell? ⟨g, 10, none⟩ = some c10 ∧ W.cell? ⟨g, 11, none⟩ = some c11 ∧ W.cell? ⟨g, 12, none⟩ = some c12 ∧ W.cell? ⟨g, 13, none⟩ = some c13 ∧ W.cell? ⟨g, 14, none⟩ = some c14 ∧ g < W.heap.size ∧ g + 1 < W.heap.size ∧ W.cell? ⟨g + 1, 0, none⟩ = some (.bool false) ∧ W.frozen? ⟨g + 1, 0, none⟩ = false :=
  ⟨h.pb.cell 0, h.pb.cell 1, h.pb.cell 2, h.pb.cell 3, h.pb.cell 4, h.pb.cell 5, h.pb.cell 6, h.pb.cell 7, h.pb.cell 8, h.pb.cell 9, h.pb.cell 10, h.pb.cell 11, h.pb.cell 12, h.pb.cell 13, h.pb.cell 14, h.pb.lt, h.rb.lt, h.rb.cell 0, h.rb.frozen 0⟩
theorem PSt.below {w W W' : World} {g : Nat} {c : Array Value} (h : PSt w g c W) (hb : Below W.heap.size W W') : PSt w g c W' := ⟨below_t h.bl hb, h.pb.below hb h.pb.lt, h.rb.below hb h.rb.lt⟩
theorem PSt.grown {w W W' : World} {g : Nat} {c : Array Value} {row : Option Nat} {n0 : Nat} (h : PSt w g c W) (hg : W.grownBy W' row) (hr : ∀ r, row = some r → n0 ≤ r ∧ ∃ o : Obj, W.heap[r]? = some o ∧ o.isCells = false) (hn : g + 2 ≤ n0) (hw : w.heap.size ≤ n0) : PSt w g c W' := by
  have hk : ∀ k, k < n0 → k < W.heap.size → W'.heap[k]? = W.heap[k]? := fun k h1 h2 => hg.block k h2 fun e => by have := (hr k e.symm).1; omega
  exact ⟨h.bl.trans ⟨hg.os, hg.tape, hg.output, hg.size, fun k h1 => hk k (by omega) (Nat.lt_of_lt_of_le h1 h.bl.size)⟩, (hk _ (by omega) h.pb.lt).trans h.pb, (hk _ (by omega) h.rb.lt).trans h.rb⟩
set_option maxHeartbeats 16000000 in
theorem kmay_any (W0 : World) (p : PkgD) (r : PkgR) (hp : PkgIn anyB W0 p r) (w : World) (hB : Below W0.heap.size W0 w) (hc : p.few) (hW : Words w) (hO : Ops w) :
    Calls Tryz.prog 34 #[p.val r] w fun e w' => e = .returned (.bool (mayP p)) ∧ Below w.heap.size w w' := by
  have hpw : ∀ W, Below w.heap.size w W → PkgIn anyB W p r := fun W h => hp.keep (Nat.le_trans hB.size h.size) fun b _ h2 => ⟨(h.block b (Nat.lt_of_lt_of_le h2 hB.size)).trans (hB.block b h2), trivial⟩
  have hpp := hpw w (Below.refl _ _)
  clear hp hB
  obtain ⟨x1, hx1, hy1⟩ : ∃ x : PL w, (x.wh = 1 ∧ x.v = r.req) ∧ x.y = p.req := ⟨⟨1, r.req, p.req, by omega, hpp.req, hc _ (by simp)⟩, ⟨rfl, rfl⟩, rfl⟩
  obtain ⟨x2, hx2, hy2⟩ : ∃ x : PL w, (x.wh = 2 ∧ x.v = r.con) ∧ x.y = p.con := ⟨⟨2, r.con, p.con, by omega, hpp.con, hc _ (by simp)⟩, ⟨rfl, rfl⟩, rfl⟩
  obtain ⟨x3, hx3, hy3⟩ : ∃ x : PL w, (x.wh = 1 ∧ x.v = r.reco) ∧ x.y = p.reco := ⟨⟨1, r.reco, p.reco, by omega, hpp.reco, hc _ (by simp)⟩, ⟨rfl, rfl⟩, rfl⟩
  obtain ⟨x4, hx4, hy4⟩ : ∃ x : PL w, (x.wh = 3 ∧ x.v = r.sup) ∧ x.y = p.sup := ⟨⟨3, r.sup, p.sup, by omega, hpp.sup, hc _ (by simp)⟩, ⟨rfl, rfl⟩, rfl⟩
  obtain ⟨x5, hx5, hy5⟩ : ∃ x : PL w, (x.wh = 1 ∧ x.v = r.sug) ∧ x.y = p.sug := ⟨⟨1, r.sug, p.sug, by omega, hpp.sug, hc _ (by simp)⟩, ⟨rfl, rfl⟩, rfl⟩
  obtain ⟨x6, hx6, hy6⟩ : ∃ x : PL w, (x.wh = 3 ∧ x.v = r.enh) ∧ x.y = p.enh := ⟨⟨3, r.enh, p.enh, by omega, hpp.enh, hc _ (by simp)⟩, ⟨rfl, rfl⟩, rfl⟩
  have HSix := Lib.hid (show [x1, x2, x3, x4, x5, x6].all (fun x => richesE x.wh x.y) = (richesE 1 p.req && (richesE 2 p.con && (richesE 1 p.reco && (richesE 3 p.sup && (richesE 1 p.sug && richesE 3 p.enh))))) by
    simp only [List.all_cons, List.all_nil, Bool.and_true, hx1.1, hx2.1, hx3.1, hx4.1, hx5.1, hx6.1, hy1, hy2, hy3, hy4, hy5, hy6])
  have HST := Lib.hid (fun (w1 : World) (Bb B n : Nat) (hBb : Bb ≠ B) (hcb : Blk w1 Bb 29 (pkgA p r)) => lists_stops w w1 Bb B n hBb p r hcb x1 x2 x3 x4 x5 x6 hx1 hx2 hx3 hx4 hx5 hx6)
  have HWO := Lib.hid (show ∀ W, Below w.heap.size w W → Words W ∧ Ops W from fun W h => ⟨hW.below h, hO.below h⟩)
  have HName := Lib.hid (show ∀ W, Below w.heap.size w W → Calls Tryz.prog 69 #[.string p.name] W fun e w' => e = .returned (.bool (nameE p.name)) ∧ Below W.heap.size W w' from fun W h => name_any p.name W hpp.s1 (hW.below h))
  have HFile := Lib.hid (show ∀ W, Below w.heap.size w W → Calls Tryz.prog 70 #[.string p.name] W fun e w' => e = .returned (.bool (fileE p.name)) ∧ Below W.heap.size W w' from fun W h => file_any p.name W hpp.s1 (hW.below h))
  have HEvr := Lib.hid (show ∀ W, Below w.heap.size w W → Calls Tryz.prog 71 #[.agg #[.int .i64 p.ep, .string p.ver, .string p.rel], .bool false] W fun e w' => e = .returned (.bool (evrE p.ep p.ver p.rel false)) ∧ Below W.heap.size W w' from fun W _ => evr_any p.ep p.ver p.rel false W hpp.s2 hpp.s3)
  have HArch := Lib.hid (show ∀ W, Below w.heap.size w W → Calls Tryz.prog 72 #[.int .u8 p.arch] W fun e w' => e = .returned (.string (archS p.arch)) ∧ Below W.heap.size W w' from fun W _ => aname_any p.arch W)
  have HPr := Lib.hid (show ∀ W, Below w.heap.size w W → Calls Tryz.prog 73 #[r.prov, .int .i64 32, .func (.func 74) #[] #[]] W fun e w' => e = .returned (.bool (depsE p.prov)) ∧ Below W.heap.size W w' from fun W h => everyD_may w p.prov _ hpp.prov W h (hW.below h) (hO.below h))
  have HOb := Lib.hid (show ∀ W, Below w.heap.size w W → Calls Tryz.prog 73 #[r.obs, .int .i64 32, .func (.func 74) #[] #[]] W fun e w' => e = .returned (.bool (depsE p.obs)) ∧ Below W.heap.size W w' from fun W h => everyD_may w p.obs _ hpp.obs W h (hW.below h) (hO.below h))
  have HFs := Lib.hid (show ∀ W, Below w.heap.size w W → Calls Tryz.prog 75 #[r.files, .int .i64 32, .func (.func 70) #[] #[]] W fun e w' => e = .returned (.bool (filesE p.files)) ∧ Below W.heap.size W w' from fun W h => everyS_may w p.files _ hpp.files W h (hW.below h))
  have HEv := Lib.hid (show ∀ (x : PL w) (bw : Nat) (W : World), Below w.heap.size w W → Blk W bw 5 #[.int .u8 x.wh] → Calls Tryz.prog 77 #[x.v, .int .i64 32, .func (.func 78) #[] #[.pointer (some ⟨bw, 0, none⟩)]] W fun e w' => e = .returned (.bool (richesE x.wh x.y)) ∧ Below W.heap.size W w' from fun x bw W h hb => everyR_may w x.y x.v x.hl x.hc bw x.wh x.hw W h (hW.below h) (hO.below h) hb)
  have HKl := Lib.hid (show ∀ W, Below w.heap.size w W → Calls Tryz.prog 76 #[p.val r] W fun e w' => e = .returned (.func (.func 123) #[] #[.pointer (some ⟨W.heap.size, 0, none⟩)]) ∧ w' = W.alloc (.cells (pkgA p r) 29) from fun W h => klists_any p r W (hpw W h))
  have HFl := Lib.hid hpp.files
  obtain ⟨T, hT⟩ : ∃ T, T = mayP p := ⟨_, rfl⟩
  rw [← hT]
  unfold mayP at hT
  have hal := arch_list p.arch
  obtain ⟨bn, hbn⟩ : ∃ b, b = nameE p.name := ⟨_, rfl⟩
  obtain ⟨bf, hbf⟩ : ∃ b, b = fileE p.name := ⟨_, rfl⟩
  obtain ⟨be, hbe⟩ : ∃ b, b = evrE p.ep p.ver p.rel false := ⟨_, rfl⟩
  obtain ⟨S, hS⟩ : ∃ S, S = archS p.arch := ⟨_, rfl⟩
  obtain ⟨ba, hba⟩ : ∃ b, b = archE p.arch := ⟨_, rfl⟩
  obtain ⟨bp, hbp⟩ : ∃ b, b = depsE p.prov := ⟨_, rfl⟩
  obtain ⟨bo, hbo⟩ : ∃ b, b = depsE p.obs := ⟨_, rfl⟩
  obtain ⟨bs, hbs⟩ : ∃ b, b = filesE p.files := ⟨_, rfl⟩
  rw [← hbn, ← hbf, ← hbe, ← hba, ← hbp, ← hbo, ← hbs] at hT
  rw [← hbn] at HName
  rw [← hbf] at HFile
  rw [← hbe] at HEvr
  rw [← hS] at HArch hal
  rw [← hba] at hal
  rw [← hbp] at HPr
  rw [← hbo] at HOb
  rw [← hbs] at HFs
  rcases r with ⟨r1, r2, r3, r4, r5, r6, r7, r8, r9⟩
  obtain ⟨a1, q1, (rfl : r1 = _)⟩ := hpp.prov.form
  obtain ⟨a2, q2, (rfl : r2 = _)⟩ := hpp.req.form
  obtain ⟨a3, q3, (rfl : r3 = _)⟩ := hpp.con.form
  obtain ⟨a4, q4, (rfl : r4 = _)⟩ := hpp.obs.form
  obtain ⟨a5, q5, (rfl : r5 = _)⟩ := hpp.reco.form
  obtain ⟨a6, q6, (rfl : r6 = _)⟩ := hpp.sup.form
  obtain ⟨a7, q7, (rfl : r7 = _)⟩ := hpp.sug.form
  obtain ⟨a8, q8, (rfl : r8 = _)⟩ := hpp.enh.form
  obtain ⟨a9, q9, (rfl : r9 = _)⟩ := hpp.files.form
  clear hx1 hx2 hx3 hx4 hx5 hx6 hy1 hy2 hy3 hy4 hy5 hy6 hbn hbf hbe hba hbp hbo hbs hS hpp hpw hW hO hc
  simp only [PkgD.val, pkgA] at HPr HOb HFs HKl HST
  obtain ⟨g, hg⟩ : ∃ g, g = w.heap.size := ⟨_, rfl⟩
  obtain ⟨w1, hw1⟩ : ∃ w1, w1 = w.alloc (.cells #[.string p.name, .int .i64 p.ep, .string p.ver, .string p.rel, .int .u8 p.arch, .string p.vendor, .slice a1 p.prov.length q1, .slice a2 (argL p.req).length q2, .slice a3 (argL p.con).length q3, .slice a4 p.obs.length q4, .slice a5 (argL p.reco).length q5, .slice a6 (argL p.sup).length q6, .slice a7 (argL p.sug).length q7, .slice a8 (argL p.enh).length q8, .slice a9 p.files.length q9] 29) := ⟨_, rfl⟩
  obtain ⟨w2, hw2⟩ : ∃ w2, w2 = w1.alloc (.cells #[.bool false] 4) := ⟨_, rfl⟩
  have z1 : w1.heap.size = g + 1 := by rw [hw1, hg]; simp
  have b1 : Below w.heap.size w w1 := by rw [hw1]; exact new_b _ _
  have b2 : Below w1.heap.size w1 w2 := by rw [hw2]; exact new_b _ _
  have k1 : Blk w1 g 29 #[.string p.name, .int .i64 p.ep, .string p.ver, .string p.rel, .int .u8 p.arch, .string p.vendor, .slice a1 p.prov.length q1, .slice a2 (argL p.req).length q2, .slice a3 (argL p.con).length q3, .slice a4 p.obs.length q4, .slice a5 (argL p.reco).length q5, .slice a6 (argL p.sup).length q6, .slice a7 (argL p.sug).length q7, .slice a8 (argL p.enh).length q8, .slice a9 p.files.length q9] := by rw [hw1, hg]; exact Blk.new _ _ _
  have k2 : Blk w2 (g + 1) 4 #[.bool false] := by rw [hw2, ← z1]; exact Blk.new _ _ _
  have HSt := Lib.hid (⟨below_t b1 b2, k1.below b2 k1.lt, k2⟩ : PSt w g #[.string p.name, .int .i64 p.ep, .string p.ver, .string p.rel, .int .u8 p.arch, .string p.vendor, .slice a1 p.prov.length q1, .slice a2 (argL p.req).length q2, .slice a3 (argL p.con).length q3, .slice a4 p.obs.length q4, .slice a5 (argL p.reco).length q5, .slice a6 (argL p.sup).length q6, .slice a7 (argL p.sug).length q7, .slice a8 (argL p.enh).length q8, .slice a9 p.files.length q9] w2)
  have hwg : w.heap.size ≤ g + 1 := by rw [hg]; omega
  have HBs := Lib.hid (show ∀ (W : World) (v : Value), PSt w g #[.string p.name, .int .i64 p.ep, .string p.ver, .string p.rel, .int .u8 p.arch, .string p.vendor, .slice a1 p.prov.length q1, .slice a2 (argL p.req).length q2, .slice a3 (argL p.con).length q3, .slice a4 p.obs.length q4, .slice a5 (argL p.reco).length q5, .slice a6 (argL p.sup).length q6, .slice a7 (argL p.sug).length q7, .slice a8 (argL p.enh).length q8, .slice a9 p.files.length q9] W → Below w.heap.size w (W.setCell ⟨g + 1, 0, none⟩ v) from fun W v h => h.bl.setCell (p := ⟨g + 1, 0, none⟩) hwg v)
  clear b1 b2 k1 k2 z1
  obtain ⟨d0, d1, d2, d3, d4, d5, d6, d7, d8, d9, d10, d11, d12, d13, d14, dl, ul, u0, f0⟩ := HSt.out.facts
  refine (callsIn_wide (n := 5)).1 ?_
  refine callsIn_of_wp_marks Tryz.func34 rfl trivial ?_ rfl
  simp only [Tryz.ntmps34, List.size_toArray, List.length_cons, List.length_nil, Nat.reduceAdd, Nat.reduceSub, Array.replicate_succ, Array.replicate_zero, List.push_toArray, List.append_toArray, List.nil_append, List.cons_append]
  unfold PkgD.val
  refine wpIn_wide.2 ?_
  go_upto_region 1 with fail
  rw [← hw1, ← hg, ← hw2]
  have HG := Lib.hid hg
  clear hw1 hw2 hg
  cases bn with
  | false =>
    obtain rfl : T = false := by rw [hT]; simp
    clear hT
    go_wp2_with (first
      | (go_at_call 69; (with_reducible refine (HName.out _ HSt.out.bl).mono ?_); rintro e wx ⟨rfl, HBc⟩; have HSt := Lib.hid (HSt.out.below HBc); clear HBc d0 d1 d2 d3 d4 d5 d6 d7 d8 d9 d10 d11 d12 d13 d14 dl ul u0 f0; obtain ⟨d0, d1, d2, d3, d4, d5, d6, d7, d8, d9, d10, d11, d12, d13, d14, dl, ul, u0, f0⟩ := HSt.out.facts)
      | fail)
    exact ⟨_, results_cell_one rfl _ _ (g + 1) (.bool false) rfl (load4 (HSt.out.rb.set_ 0 _)), rfl, HBs.out _ _ HSt.out⟩
  | true =>
    cases bf with
    | true =>
      obtain rfl : T = false := by rw [hT]; simp
      clear hT
      go_wp2_with (first
        | (go_at_call 69; (with_reducible refine (HName.out _ HSt.out.bl).mono ?_); rintro e wx ⟨rfl, HBc⟩; have HSt := Lib.hid (HSt.out.below HBc); clear HBc d0 d1 d2 d3 d4 d5 d6 d7 d8 d9 d10 d11 d12 d13 d14 dl ul u0 f0; obtain ⟨d0, d1, d2, d3, d4, d5, d6, d7, d8, d9, d10, d11, d12, d13, d14, dl, ul, u0, f0⟩ := HSt.out.facts)
        | (go_at_call 70; (with_reducible refine (HFile.out _ HSt.out.bl).mono ?_); rintro e wx ⟨rfl, HBc⟩; have HSt := Lib.hid (HSt.out.below HBc); clear HBc d0 d1 d2 d3 d4 d5 d6 d7 d8 d9 d10 d11 d12 d13 d14 dl ul u0 f0; obtain ⟨d0, d1, d2, d3, d4, d5, d6, d7, d8, d9, d10, d11, d12, d13, d14, dl, ul, u0, f0⟩ := HSt.out.facts)
        | fail)
      exact ⟨_, results_cell_one rfl _ _ (g + 1) (.bool false) rfl (load4 (HSt.out.rb.set_ 0 _)), rfl, HBs.out _ _ HSt.out⟩
    | false =>
      cases be with
      | false =>
        obtain rfl : T = false := by rw [hT]; simp
        clear hT
        go_wp2_with (first
          | (go_at_call 69; (with_reducible refine (HName.out _ HSt.out.bl).mono ?_); rintro e wx ⟨rfl, HBc⟩; have HSt := Lib.hid (HSt.out.below HBc); clear HBc d0 d1 d2 d3 d4 d5 d6 d7 d8 d9 d10 d11 d12 d13 d14 dl ul u0 f0; obtain ⟨d0, d1, d2, d3, d4, d5, d6, d7, d8, d9, d10, d11, d12, d13, d14, dl, ul, u0, f0⟩ := HSt.out.facts)
          | (go_at_call 70; (with_reducible refine (HFile.out _ HSt.out.bl).mono ?_); rintro e wx ⟨rfl, HBc⟩; have HSt := Lib.hid (HSt.out.below HBc); clear HBc d0 d1 d2 d3 d4 d5 d6 d7 d8 d9 d10 d11 d12 d13 d14 dl ul u0 f0; obtain ⟨d0, d1, d2, d3, d4, d5, d6, d7, d8, d9, d10, d11, d12, d13, d14, dl, ul, u0, f0⟩ := HSt.out.facts)
          | (go_at_call 71; (with_reducible refine (HEvr.out _ HSt.out.bl).mono ?_); rintro e wx ⟨rfl, HBc⟩; have HSt := Lib.hid (HSt.out.below HBc); clear HBc d0 d1 d2 d3 d4 d5 d6 d7 d8 d9 d10 d11 d12 d13 d14 dl ul u0 f0; obtain ⟨d0, d1, d2, d3, d4, d5, d6, d7, d8, d9, d10, d11, d12, d13, d14, dl, ul, u0, f0⟩ := HSt.out.facts)
          | fail)
        exact ⟨_, results_cell_one rfl _ _ (g + 1) (.bool false) rfl (load4 (HSt.out.rb.set_ 0 _)), rfl, HBs.out _ _ HSt.out⟩
      | true =>
        cases ba with
        | false =>
          have hS0 : S.toList.isEmpty = true := hal
          have hS1 : S.toList = [] := List.isEmpty_iff.1 hS0
          clear hal hS0
          obtain rfl : T = false := by rw [hT]; simp
          clear hT
          go_wp2_with (first
            | (go_at_call 69; (with_reducible refine (HName.out _ HSt.out.bl).mono ?_); rintro e wx ⟨rfl, HBc⟩; have HSt := Lib.hid (HSt.out.below HBc); clear HBc d0 d1 d2 d3 d4 d5 d6 d7 d8 d9 d10 d11 d12 d13 d14 dl ul u0 f0; obtain ⟨d0, d1, d2, d3, d4, d5, d6, d7, d8, d9, d10, d11, d12, d13, d14, dl, ul, u0, f0⟩ := HSt.out.facts)
            | (go_at_call 70; (with_reducible refine (HFile.out _ HSt.out.bl).mono ?_); rintro e wx ⟨rfl, HBc⟩; have HSt := Lib.hid (HSt.out.below HBc); clear HBc d0 d1 d2 d3 d4 d5 d6 d7 d8 d9 d10 d11 d12 d13 d14 dl ul u0 f0; obtain ⟨d0, d1, d2, d3, d4, d5, d6, d7, d8, d9, d10, d11, d12, d13, d14, dl, ul, u0, f0⟩ := HSt.out.facts)
            | (go_at_call 71; (with_reducible refine (HEvr.out _ HSt.out.bl).mono ?_); rintro e wx ⟨rfl, HBc⟩; have HSt := Lib.hid (HSt.out.below HBc); clear HBc d0 d1 d2 d3 d4 d5 d6 d7 d8 d9 d10 d11 d12 d13 d14 dl ul u0 f0; obtain ⟨d0, d1, d2, d3, d4, d5, d6, d7, d8, d9, d10, d11, d12, d13, d14, dl, ul, u0, f0⟩ := HSt.out.facts)
            | (go_at_call 72; (with_reducible refine (HArch.out _ HSt.out.bl).mono ?_); rintro e wx ⟨rfl, HBc⟩; have HSt := Lib.hid (HSt.out.below HBc); clear HBc d0 d1 d2 d3 d4 d5 d6 d7 d8 d9 d10 d11 d12 d13 d14 dl ul u0 f0; obtain ⟨d0, d1, d2, d3, d4, d5, d6, d7, d8, d9, d10, d11, d12, d13, d14, dl, ul, u0, f0⟩ := HSt.out.facts)
            | fail)
          exact ⟨_, results_cell_one rfl _ _ (g + 1) (.bool false) rfl (load4 (HSt.out.rb.set_ 0 _)), rfl, HBs.out _ _ HSt.out⟩
        | true =>
          have hS0 : S.toList.isEmpty = false := hal
          have hS1 : ¬ S.toList = [] := fun e => by rw [e] at hS0; cases hS0
          clear hal
          by_cases hv : p.vendor.size ≤ 64
          rotate_left
          · have hv1 : decide ((64 : Int) < (p.vendor.size : Int)) = true := by rw [decide_eq_true]; omega
            have hv2 : (64 : Int) < (p.vendor.size : Int) := by omega
            rw [decide_eq_false hv] at hT
            clear hv
            obtain rfl : T = false := by rw [hT]; simp
            clear hT
            go_wp2_with (first
              | (go_at_call 69; (with_reducible refine (HName.out _ HSt.out.bl).mono ?_); rintro e wx ⟨rfl, HBc⟩; have HSt := Lib.hid (HSt.out.below HBc); clear HBc d0 d1 d2 d3 d4 d5 d6 d7 d8 d9 d10 d11 d12 d13 d14 dl ul u0 f0; obtain ⟨d0, d1, d2, d3, d4, d5, d6, d7, d8, d9, d10, d11, d12, d13, d14, dl, ul, u0, f0⟩ := HSt.out.facts)
              | (go_at_call 70; (with_reducible refine (HFile.out _ HSt.out.bl).mono ?_); rintro e wx ⟨rfl, HBc⟩; have HSt := Lib.hid (HSt.out.below HBc); clear HBc d0 d1 d2 d3 d4 d5 d6 d7 d8 d9 d10 d11 d12 d13 d14 dl ul u0 f0; obtain ⟨d0, d1, d2, d3, d4, d5, d6, d7, d8, d9, d10, d11, d12, d13, d14, dl, ul, u0, f0⟩ := HSt.out.facts)
              | (go_at_call 71; (with_reducible refine (HEvr.out _ HSt.out.bl).mono ?_); rintro e wx ⟨rfl, HBc⟩; have HSt := Lib.hid (HSt.out.below HBc); clear HBc d0 d1 d2 d3 d4 d5 d6 d7 d8 d9 d10 d11 d12 d13 d14 dl ul u0 f0; obtain ⟨d0, d1, d2, d3, d4, d5, d6, d7, d8, d9, d10, d11, d12, d13, d14, dl, ul, u0, f0⟩ := HSt.out.facts)
              | (go_at_call 72; (with_reducible refine (HArch.out _ HSt.out.bl).mono ?_); rintro e wx ⟨rfl, HBc⟩; have HSt := Lib.hid (HSt.out.below HBc); clear HBc d0 d1 d2 d3 d4 d5 d6 d7 d8 d9 d10 d11 d12 d13 d14 dl ul u0 f0; obtain ⟨d0, d1, d2, d3, d4, d5, d6, d7, d8, d9, d10, d11, d12, d13, d14, dl, ul, u0, f0⟩ := HSt.out.facts)
              | fail)
            exact ⟨_, results_cell_one rfl _ _ (g + 1) (.bool false) rfl (load4 (HSt.out.rb.set_ 0 _)), rfl, HBs.out _ _ HSt.out⟩
          have hv1 : decide ((64 : Int) < (p.vendor.size : Int)) = false := by rw [decide_eq_false]; omega
          have hv2 : (p.vendor.size : Int) ≤ 64 := by omega
          rw [decide_eq_true hv] at hT
          clear hv
          cases bp with
          | false =>
            obtain rfl : T = false := by rw [hT]; simp
            clear hT
            go_wp2_with (first
              | (go_at_call 69; (with_reducible refine (HName.out _ HSt.out.bl).mono ?_); rintro e wx ⟨rfl, HBc⟩; have HSt := Lib.hid (HSt.out.below HBc); clear HBc d0 d1 d2 d3 d4 d5 d6 d7 d8 d9 d10 d11 d12 d13 d14 dl ul u0 f0; obtain ⟨d0, d1, d2, d3, d4, d5, d6, d7, d8, d9, d10, d11, d12, d13, d14, dl, ul, u0, f0⟩ := HSt.out.facts)
              | (go_at_call 70; (with_reducible refine (HFile.out _ HSt.out.bl).mono ?_); rintro e wx ⟨rfl, HBc⟩; have HSt := Lib.hid (HSt.out.below HBc); clear HBc d0 d1 d2 d3 d4 d5 d6 d7 d8 d9 d10 d11 d12 d13 d14 dl ul u0 f0; obtain ⟨d0, d1, d2, d3, d4, d5, d6, d7, d8, d9, d10, d11, d12, d13, d14, dl, ul, u0, f0⟩ := HSt.out.facts)
              | (go_at_call 71; (with_reducible refine (HEvr.out _ HSt.out.bl).mono ?_); rintro e wx ⟨rfl, HBc⟩; have HSt := Lib.hid (HSt.out.below HBc); clear HBc d0 d1 d2 d3 d4 d5 d6 d7 d8 d9 d10 d11 d12 d13 d14 dl ul u0 f0; obtain ⟨d0, d1, d2, d3, d4, d5, d6, d7, d8, d9, d10, d11, d12, d13, d14, dl, ul, u0, f0⟩ := HSt.out.facts)
              | (go_at_call 72; (with_reducible refine (HArch.out _ HSt.out.bl).mono ?_); rintro e wx ⟨rfl, HBc⟩; have HSt := Lib.hid (HSt.out.below HBc); clear HBc d0 d1 d2 d3 d4 d5 d6 d7 d8 d9 d10 d11 d12 d13 d14 dl ul u0 f0; obtain ⟨d0, d1, d2, d3, d4, d5, d6, d7, d8, d9, d10, d11, d12, d13, d14, dl, ul, u0, f0⟩ := HSt.out.facts)
              | (go_at_call 73; (first | (with_reducible refine (HPr.out _ HSt.out.bl).mono ?_) | (with_reducible refine (HOb.out _ HSt.out.bl).mono ?_)); rintro e wx ⟨rfl, HBc⟩; have HSt := Lib.hid (HSt.out.below HBc); clear HBc d0 d1 d2 d3 d4 d5 d6 d7 d8 d9 d10 d11 d12 d13 d14 dl ul u0 f0; obtain ⟨d0, d1, d2, d3, d4, d5, d6, d7, d8, d9, d10, d11, d12, d13, d14, dl, ul, u0, f0⟩ := HSt.out.facts)
              | fail)
            exact ⟨_, results_cell_one rfl _ _ (g + 1) (.bool false) rfl (load4 (HSt.out.rb.set_ 0 _)), rfl, HBs.out _ _ HSt.out⟩
          | true =>
            cases bo with
            | false =>
              obtain rfl : T = false := by rw [hT]; simp
              clear hT
              go_wp2_with (first
                | (go_at_call 69; (with_reducible refine (HName.out _ HSt.out.bl).mono ?_); rintro e wx ⟨rfl, HBc⟩; have HSt := Lib.hid (HSt.out.below HBc); clear HBc d0 d1 d2 d3 d4 d5 d6 d7 d8 d9 d10 d11 d12 d13 d14 dl ul u0 f0; obtain ⟨d0, d1, d2, d3, d4, d5, d6, d7, d8, d9, d10, d11, d12, d13, d14, dl, ul, u0, f0⟩ := HSt.out.facts)
                | (go_at_call 70; (with_reducible refine (HFile.out _ HSt.out.bl).mono ?_); rintro e wx ⟨rfl, HBc⟩; have HSt := Lib.hid (HSt.out.below HBc); clear HBc d0 d1 d2 d3 d4 d5 d6 d7 d8 d9 d10 d11 d12 d13 d14 dl ul u0 f0; obtain ⟨d0, d1, d2, d3, d4, d5, d6, d7, d8, d9, d10, d11, d12, d13, d14, dl, ul, u0, f0⟩ := HSt.out.facts)
                | (go_at_call 71; (with_reducible refine (HEvr.out _ HSt.out.bl).mono ?_); rintro e wx ⟨rfl, HBc⟩; have HSt := Lib.hid (HSt.out.below HBc); clear HBc d0 d1 d2 d3 d4 d5 d6 d7 d8 d9 d10 d11 d12 d13 d14 dl ul u0 f0; obtain ⟨d0, d1, d2, d3, d4, d5, d6, d7, d8, d9, d10, d11, d12, d13, d14, dl, ul, u0, f0⟩ := HSt.out.facts)
                | (go_at_call 72; (with_reducible refine (HArch.out _ HSt.out.bl).mono ?_); rintro e wx ⟨rfl, HBc⟩; have HSt := Lib.hid (HSt.out.below HBc); clear HBc d0 d1 d2 d3 d4 d5 d6 d7 d8 d9 d10 d11 d12 d13 d14 dl ul u0 f0; obtain ⟨d0, d1, d2, d3, d4, d5, d6, d7, d8, d9, d10, d11, d12, d13, d14, dl, ul, u0, f0⟩ := HSt.out.facts)
                | (go_at_call 73; (first | (with_reducible refine (HPr.out _ HSt.out.bl).mono ?_) | (with_reducible refine (HOb.out _ HSt.out.bl).mono ?_)); rintro e wx ⟨rfl, HBc⟩; have HSt := Lib.hid (HSt.out.below HBc); clear HBc d0 d1 d2 d3 d4 d5 d6 d7 d8 d9 d10 d11 d12 d13 d14 dl ul u0 f0; obtain ⟨d0, d1, d2, d3, d4, d5, d6, d7, d8, d9, d10, d11, d12, d13, d14, dl, ul, u0, f0⟩ := HSt.out.facts)
                | fail)
              exact ⟨_, results_cell_one rfl _ _ (g + 1) (.bool false) rfl (load4 (HSt.out.rb.set_ 0 _)), rfl, HBs.out _ _ HSt.out⟩
            | true =>
              cases bs with
              | false =>
                obtain rfl : T = false := by rw [hT]; simp
                clear hT
                go_wp2_with (first
                  | (go_at_call 69; (with_reducible refine (HName.out _ HSt.out.bl).mono ?_); rintro e wx ⟨rfl, HBc⟩; have HSt := Lib.hid (HSt.out.below HBc); clear HBc d0 d1 d2 d3 d4 d5 d6 d7 d8 d9 d10 d11 d12 d13 d14 dl ul u0 f0; obtain ⟨d0, d1, d2, d3, d4, d5, d6, d7, d8, d9, d10, d11, d12, d13, d14, dl, ul, u0, f0⟩ := HSt.out.facts)
                  | (go_at_call 70; (with_reducible refine (HFile.out _ HSt.out.bl).mono ?_); rintro e wx ⟨rfl, HBc⟩; have HSt := Lib.hid (HSt.out.below HBc); clear HBc d0 d1 d2 d3 d4 d5 d6 d7 d8 d9 d10 d11 d12 d13 d14 dl ul u0 f0; obtain ⟨d0, d1, d2, d3, d4, d5, d6, d7, d8, d9, d10, d11, d12, d13, d14, dl, ul, u0, f0⟩ := HSt.out.facts)
                  | (go_at_call 71; (with_reducible refine (HEvr.out _ HSt.out.bl).mono ?_); rintro e wx ⟨rfl, HBc⟩; have HSt := Lib.hid (HSt.out.below HBc); clear HBc d0 d1 d2 d3 d4 d5 d6 d7 d8 d9 d10 d11 d12 d13 d14 dl ul u0 f0; obtain ⟨d0, d1, d2, d3, d4, d5, d6, d7, d8, d9, d10, d11, d12, d13, d14, dl, ul, u0, f0⟩ := HSt.out.facts)
                  | (go_at_call 72; (with_reducible refine (HArch.out _ HSt.out.bl).mono ?_); rintro e wx ⟨rfl, HBc⟩; have HSt := Lib.hid (HSt.out.below HBc); clear HBc d0 d1 d2 d3 d4 d5 d6 d7 d8 d9 d10 d11 d12 d13 d14 dl ul u0 f0; obtain ⟨d0, d1, d2, d3, d4, d5, d6, d7, d8, d9, d10, d11, d12, d13, d14, dl, ul, u0, f0⟩ := HSt.out.facts)
                  | (go_at_call 73; (first | (with_reducible refine (HPr.out _ HSt.out.bl).mono ?_) | (with_reducible refine (HOb.out _ HSt.out.bl).mono ?_)); rintro e wx ⟨rfl, HBc⟩; have HSt := Lib.hid (HSt.out.below HBc); clear HBc d0 d1 d2 d3 d4 d5 d6 d7 d8 d9 d10 d11 d12 d13 d14 dl ul u0 f0; obtain ⟨d0, d1, d2, d3, d4, d5, d6, d7, d8, d9, d10, d11, d12, d13, d14, dl, ul, u0, f0⟩ := HSt.out.facts)
                  | (go_at_call 75; (with_reducible refine (HFs.out _ HSt.out.bl).mono ?_); rintro e wx ⟨rfl, HBc⟩; have HSt := Lib.hid (HSt.out.below HBc); clear HBc d0 d1 d2 d3 d4 d5 d6 d7 d8 d9 d10 d11 d12 d13 d14 dl ul u0 f0; obtain ⟨d0, d1, d2, d3, d4, d5, d6, d7, d8, d9, d10, d11, d12, d13, d14, dl, ul, u0, f0⟩ := HSt.out.facts)
                  | fail)
                exact ⟨_, results_cell_one rfl _ _ (g + 1) (.bool false) rfl (load4 (HSt.out.rb.set_ 0 _)), rfl, HBs.out _ _ HSt.out⟩
              | true =>
                simp only [Bool.true_and, Bool.not_false] at hT
                have HT := Lib.hid hT
                clear hT
                have hnf : p.files.length ≤ 4611686018427387904 := HFl.out.bound
                have HK0 := Lib.hid (show rowK p.files 0 from fun i _ h => absurd h (by omega))
                go_wp2_with (first
                  | (go_at_call 69; (with_reducible refine (HName.out _ HSt.out.bl).mono ?_); rintro e wx ⟨rfl, HBc⟩; have HSt := Lib.hid (HSt.out.below HBc); clear HBc d0 d1 d2 d3 d4 d5 d6 d7 d8 d9 d10 d11 d12 d13 d14 dl ul u0 f0; obtain ⟨d0, d1, d2, d3, d4, d5, d6, d7, d8, d9, d10, d11, d12, d13, d14, dl, ul, u0, f0⟩ := HSt.out.facts)
                  | (go_at_call 70; (with_reducible refine (HFile.out _ HSt.out.bl).mono ?_); rintro e wx ⟨rfl, HBc⟩; have HSt := Lib.hid (HSt.out.below HBc); clear HBc d0 d1 d2 d3 d4 d5 d6 d7 d8 d9 d10 d11 d12 d13 d14 dl ul u0 f0; obtain ⟨d0, d1, d2, d3, d4, d5, d6, d7, d8, d9, d10, d11, d12, d13, d14, dl, ul, u0, f0⟩ := HSt.out.facts)
                  | (go_at_call 71; (with_reducible refine (HEvr.out _ HSt.out.bl).mono ?_); rintro e wx ⟨rfl, HBc⟩; have HSt := Lib.hid (HSt.out.below HBc); clear HBc d0 d1 d2 d3 d4 d5 d6 d7 d8 d9 d10 d11 d12 d13 d14 dl ul u0 f0; obtain ⟨d0, d1, d2, d3, d4, d5, d6, d7, d8, d9, d10, d11, d12, d13, d14, dl, ul, u0, f0⟩ := HSt.out.facts)
                  | (go_at_call 72; (with_reducible refine (HArch.out _ HSt.out.bl).mono ?_); rintro e wx ⟨rfl, HBc⟩; have HSt := Lib.hid (HSt.out.below HBc); clear HBc d0 d1 d2 d3 d4 d5 d6 d7 d8 d9 d10 d11 d12 d13 d14 dl ul u0 f0; obtain ⟨d0, d1, d2, d3, d4, d5, d6, d7, d8, d9, d10, d11, d12, d13, d14, dl, ul, u0, f0⟩ := HSt.out.facts)
                  | (go_at_call 73; (first | (with_reducible refine (HPr.out _ HSt.out.bl).mono ?_) | (with_reducible refine (HOb.out _ HSt.out.bl).mono ?_)); rintro e wx ⟨rfl, HBc⟩; have HSt := Lib.hid (HSt.out.below HBc); clear HBc d0 d1 d2 d3 d4 d5 d6 d7 d8 d9 d10 d11 d12 d13 d14 dl ul u0 f0; obtain ⟨d0, d1, d2, d3, d4, d5, d6, d7, d8, d9, d10, d11, d12, d13, d14, dl, ul, u0, f0⟩ := HSt.out.facts)
                  | (go_at_call 75; (with_reducible refine (HFs.out _ HSt.out.bl).mono ?_); rintro e wx ⟨rfl, HBc⟩; have HSt := Lib.hid (HSt.out.below HBc); clear HBc d0 d1 d2 d3 d4 d5 d6 d7 d8 d9 d10 d11 d12 d13 d14 dl ul u0 f0; obtain ⟨d0, d1, d2, d3, d4, d5, d6, d7, d8, d9, d10, d11, d12, d13, d14, dl, ul, u0, f0⟩ := HSt.out.facts)
                  | fail)
                clear hS0 hS1 hv1 hv2
                go_loopw [3, 4, 54] (fun y z i wr => ∃ k : Nat, k ≤ p.files.length ∧ i = .int .i64 k ∧ Hid (rowK p.files k ∧ PSt w g #[.string p.name, .int .i64 p.ep, .string p.ver, .string p.rel, .int .u8 p.arch, .string p.vendor, .slice a1 p.prov.length q1, .slice a2 (argL p.req).length q2, .slice a3 (argL p.con).length q3, .slice a4 p.obs.length q4, .slice a5 (argL p.reco).length q5, .slice a6 (argL p.sup).length q6, .slice a7 (argL p.sug).length q7, .slice a8 (argL p.enh).length q8, .slice a9 p.files.length q9] wr)) (fun y z i wr => p.files.length - (intOf i).toNat)
                case atStart => exact ⟨0, by omega, rfl, Lib.hid ⟨HK0.out, HSt.out⟩⟩
                case round =>
                  obtain ⟨k, hk, rfl, HQ⟩ := hrel
                  have HSt := Lib.hid HQ.out.2
                  obtain ⟨d0, d1, d2, d3, d4, d5, d6, d7, d8, d9, d10, d11, d12, d13, d14, dl, ul, u0, f0⟩ := HSt.out.facts
                  by_cases hlt : k < p.files.length
                  · have hki : (k : Int) < (p.files.length : Int) := by omega
                    obtain ⟨b, o, _, ha, _, hcs0, _⟩ := HFl.out.at_ k hlt
                    have hcs := hcs0.same (HSt.out.bl.block b hcs0.1) HSt.out.bl.size
                    obtain ⟨xk, hxk⟩ : ∃ x, x = p.files[k] := ⟨_, rfl⟩
                    rw [← hxk] at hcs
                    dsimp only [strK] at hcs
                    rw [Nat.mul_one] at hcs
                    have ek : wr.cell? ⟨b, o + k, none⟩ = some (.string xk) := hcs.2 0 (show 0 < 1 by omega)
                    have eb : b < wr.heap.size := hcs.1
                    by_cases h0 : 0 < k
                    · obtain ⟨m, hm⟩ : ∃ m, k = m + 1 := ⟨k - 1, by omega⟩
                      have hml : m < p.files.length := by omega
                      obtain ⟨b', o', _, ha', _, hcs0', _⟩ := HFl.out.at_ m hml
                      have hbo : b' = b ∧ o' = o := by
                        rw [ha] at ha'
                        injection ha' with ha'
                        injection ha' with e1 e2
                        exact ⟨e1.symm, e2.symm⟩
                      obtain ⟨rfl, rfl⟩ := hbo
                      have hcs' := hcs0'.same (HSt.out.bl.block _ hcs0'.1) HSt.out.bl.size
                      obtain ⟨xm, hxm⟩ : ∃ x, x = p.files[m] := ⟨_, rfl⟩
                      rw [← hxm] at hcs'
                      dsimp only [strK] at hcs'
                      rw [Nat.mul_one] at hcs'
                      have em : wr.cell? ⟨b', o' + m, none⟩ = some (.string xm) := hcs'.2 0 (show 0 < 1 by omega)
                      subst ha
                      have h0i : (0 : Int) < (k : Int) := by omega
                      have h0d : decide (0 < k) = true := by simpa using h0
                      have hm1 : (k : Int) - 1 = (m : Int) := by omega
                      have hm2 : IntKind.i64.wrap ((k : Int) - 1) = (m : Int) := by rw [IntKind.wrap_i64]; omega
                      have hmi : (m : Int) < (p.files.length : Int) := by omega
                      have HMK := Lib.hid hm
                      have HL1 := Lib.hid (show ltB xm xk = true → rowK p.files (k + 1) from fun h i hi h2 => by
                        by_cases e : i + 1 = k
                        · obtain rfl : i = m := by omega
                          have e2 : p.files[i + 1] = xk := by rw [hxk]; congr 1
                          rw [e2, ← hxm]; exact h
                        · exact HQ.out.1 i hi (by omega))
                      have HL2 := Lib.hid (show ltB xm xk = false → T = false from fun h => by
                        have hr : rowE p.files = false := by
                          cases hr : rowE p.files with
                          | false => rfl
                          | true =>
                            have := (rowE_iff _).1 hr m (by omega)
                            have e2 : p.files[m + 1]'(by omega) = xk := by rw [hxk]; congr 1; omega
                            rw [e2, ← hxm, h] at this
                            cases this
                        rw [HT.out, hr]; simp)
                      clear hcs hcs' hcs0 hcs0' hxk hxm ha' hm h0
                      cases hl : ltB xm xk with
                      | true =>
                        have HL := Lib.hid (HL1.out hl)
                        have hlb : Op.bytesLess xm.toList xk.toList = true := hl
                        clear hl hm1
                        go_wp2_with fail
                        go_roundw
                        case rel => exact ⟨k + 1, by omega, by go_num, Lib.hid ⟨HL.out, HSt.out⟩⟩
                        case measure => simp [intOf]; omega
                      | false =>
                        have HTf := Lib.hid (HL2.out hl)
                        have hlb : Op.bytesLess xm.toList xk.toList = false := hl
                        clear hl hm1
                        go_wp2_with fail
                        exact ⟨_, results_cell_one rfl _ _ (g + 1) (.bool false) rfl (load4 (HSt.out.rb.set_ 0 _)), ret_bool HTf.out.symm, HBs.out _ _ HSt.out⟩
                    · obtain rfl : k = 0 := by omega
                      subst ha
                      have HL := Lib.hid (show rowK p.files 1 from fun i _ h2 => absurd h2 (by omega))
                      have ek0 : wr.cell? ⟨b, o, none⟩ = some (.string xk) := ek
                      have l0 : (0 : Int) < (p.files.length : Int) := hki
                      clear hcs hcs0 hxk h0 ek hki
                      go_wp2_with fail
                      go_roundw
                      case rel => exact ⟨1, by omega, by go_num, Lib.hid ⟨HL.out, HSt.out⟩⟩
                      case measure => simp [intOf]; omega
                  · obtain rfl : k = p.files.length := by omega
                    have HRow := Lib.hid (show rowE p.files = true from (rowE_iff _).2 fun i hi => HQ.out.1 i hi hi)
                    go_wp2_with (first
                      | (go_at_call 76; (with_reducible refine (HKl.out _ HSt.out.bl).mono ?_); rintro e w6 ⟨rfl, hw6⟩; have HW6 := Lib.hid hw6; clear hw6)
                      | fail)
                    have hw6 := HW6.out
                    have hb56 : Below wr.heap.size wr w6 := by rw [hw6]; exact new_b _ _
                    have hz6 : w6.heap.size = wr.heap.size + 1 := by rw [hw6]; simp
                    have hrb : Blk w6 wr.heap.size 29 #[.string p.name, .int .i64 p.ep, .string p.ver, .string p.rel, .int .u8 p.arch, .string p.vendor, .slice a1 p.prov.length q1, .slice a2 (argL p.req).length q2, .slice a3 (argL p.con).length q3, .slice a4 p.obs.length q4, .slice a5 (argL p.reco).length q5, .slice a6 (argL p.sup).length q6, .slice a7 (argL p.sug).length q7, .slice a8 (argL p.enh).length q8, .slice a9 p.files.length q9] := by rw [hw6]; exact Blk.new _ _ _
                    have h5g : g + 1 < wr.heap.size := HSt.out.rb.lt
                    have h5w : w.heap.size ≤ wr.heap.size := HSt.out.bl.size
                    have HM6 := Lib.hid (HSt.out.below hb56)
                    have HSQ := Lib.hid (HST.out w6 wr.heap.size (g + 1) 4 (by omega) hrb)
                    clear hrb hw6 hb56 d0 d1 d2 d3 d4 d5 d6 d7 d8 d9 d10 d11 d12 d13 d14 dl ul u0 f0
                    refine wp_frame ?_
                    intro a0 ha0
                    refine wpIn_wide.1 (wpIn_rangeFunc_ownH (F := Fence.wide) (n := 5) rfl (by omega) (gf := 123) (lb := #[.pointer (some ⟨wr.heap.size, 0, none⟩)]) (by rw [ha0]; rfl) trivial (enters_of Tryz.func123 (by kernel_rfl) rfl) HSQ.out Kp.t (Kp.b (by omega)) (Below.refl _ _) (fun _ => rfl)
                      (fun pre W => PSt w g #[.string p.name, .int .i64 p.ep, .string p.ver, .string p.rel, .int .u8 p.arch, .string p.vendor, .slice a1 p.prov.length q1, .slice a2 (argL p.req).length q2, .slice a3 (argL p.con).length q3, .slice a4 p.obs.length q4, .slice a5 (argL p.reco).length q5, .slice a6 (argL p.sup).length q6, .slice a7 (argL p.sug).length q7, .slice a8 (argL p.enh).length q8, .slice a9 p.files.length q9] W ∧ pre.all (fun x => richesE x.wh x.y) = true)
                      (fun cd pre W => cd = .ret ∧ Below w.heap.size w W ∧ Blk W (g + 1) 4 #[.bool false] ∧ pre.all (fun x => richesE x.wh x.y) = false)
                      (fun s A B row hs hg' hr => ⟨hs.1.grown hg' hr (by omega) (by omega), hs.2⟩)
                      (fun cd s A B row hs hg' hr => ⟨hs.1, hs.2.1.trans ⟨hg'.os, hg'.tape, hg'.output, hg'.size, fun k h1 => hg'.block k (Nat.lt_of_lt_of_le h1 hs.2.1.size) (fun e => by have := (hr k e.symm).1; omega)⟩, blk_walk hs.2.2.1 hg' hr, hs.2.2.2⟩)
                      ⟨HM6.out, rfl⟩
                      (fun x a' W => ∃ Bx, g + 1 < Bx ∧ Blk W Bx 5 #[.int .u8 x.wh] ∧ a' = { tmps := (((a0.tmps.setIfInBounds 74 (.int .u8 x.wh)).setIfInBounds 75 x.v).setIfInBounds 5 (.pointer (some ⟨Bx, 0, none⟩))).setIfInBounds 6 x.v, defers := [] })
                      (fun x a' s A B row hs hg' hr => by
                        obtain ⟨Bx, h1, h2, h3⟩ := hs
                        exact ⟨Bx, h1, blk_walk h2 hg' hr, h3⟩) ?assign ?body ?done ?stop)
                    case assign =>
                      rintro l pre x W K ⟨hm, hp⟩ hK
                      subst ha0
                      have HKK := Lib.hid hK
                      have HMW := Lib.hid hm
                      clear hK hm
                      gi_wp2
                      refine HKK.out _ _ ((KeepsOthers.alloc _ _).from _) (Kp.of_below HMW.out.bl.size (below_new W (.cells #[.int .u8 x.wh] 5))) ⟨HMW.out.below (below_new W (.cells #[.int .u8 x.wh] 5)), hp⟩ ⟨W.heap.size, HMW.out.rb.lt, Blk.new W 5 #[.int .u8 x.wh], ?_⟩
                      rfl
                    case body =>
                      rintro l pre x a' W hl ⟨rr, hrr⟩ ⟨hm, hp⟩ ⟨Bx, hBx, hbx, rfl⟩ hlen
                      subst ha0
                      simp only [List.setIfInBounds_toArray, List.set_cons_succ, List.set_cons_zero]
                      have HEx := Lib.hid (HEv.out x Bx W hm.bl hbx)
                      obtain ⟨bx, hbxe⟩ : ∃ b, b = richesE x.wh x.y := ⟨_, rfl⟩
                      rw [← hbxe] at HEx
                      have HBE := Lib.hid hbxe
                      have HMW := Lib.hid hm
                      have HGo := Lib.hid (show ∀ W', Below W.heap.size W W' → richesE x.wh x.y = true → KeepsFrom w6.heap.size W W' ∧ Kp (g + 1) w.heap.size W W' ∧ PSt w g #[.string p.name, .int .i64 p.ep, .string p.ver, .string p.rel, .int .u8 p.arch, .string p.vendor, .slice a1 p.prov.length q1, .slice a2 (argL p.req).length q2, .slice a3 (argL p.con).length q3, .slice a4 p.obs.length q4, .slice a5 (argL p.reco).length q5, .slice a6 (argL p.sup).length q6, .slice a7 (argL p.sug).length q7, .slice a8 (argL p.enh).length q8, .slice a9 p.files.length q9] W' ∧ (pre ++ [x]).all (fun x => richesE x.wh x.y) = true from fun W' hb hk =>
                        ⟨KC.keeps hb _, Kp.of_below hm.bl.size hb, hm.below hb, by rw [List.all_append, hp]; simp [hk]⟩)
                      have HLe := Lib.hid (show ∀ W', Below W.heap.size W W' → richesE x.wh x.y = false → KeepsFrom w6.heap.size W (W'.setCell ⟨g + 1, 0, none⟩ (.bool false)) ∧ (Below w.heap.size w (W'.setCell ⟨g + 1, 0, none⟩ (.bool false)) ∧ Blk (W'.setCell ⟨g + 1, 0, none⟩ (.bool false)) (g + 1) 4 #[.bool false] ∧ (pre ++ [x]).all (fun x => richesE x.wh x.y) = false) from fun W' hb hk =>
                        ⟨(KC.keeps hb _).trans ((KeepsOthers.setCell _ _ _).from _), (hm.below hb).bl.setCell (p := ⟨g + 1, 0, none⟩) hwg _, (hm.below hb).rb.set_ 0 _, by rw [List.all_append]; simp [hk]⟩)
                      clear hm hbx hp hbxe HM6 HST HSQ
                      cases bx with
                      | true =>
                        gi_wp2_with (first
                          | (refine ⟨trivial, ?_⟩; gi_at_call 77; refine (CallsIn.inRound l (callsIn_wide.2 HEx.out)).mono ?_; rintro e w7 ⟨rfl, hb7⟩; have HB7 := Lib.hid hb7; clear hb7)
                          | fail)
                        exact HGo.out w7 HB7.out HBE.out.symm
                      | false =>
                        gi_wp2_with (first
                          | (refine ⟨trivial, ?_⟩; gi_at_call 77; refine (CallsIn.inRound l (callsIn_wide.2 HEx.out)).mono ?_; rintro e w7 ⟨rfl, hb7⟩; have HB7 := Lib.hid hb7; have HM7 := Lib.hid (HMW.out.below hb7); clear hb7; have l2 : g + 1 < w7.heap.size := HM7.out.rb.lt; have v0 : w7.frozen? ⟨g + 1, 0, none⟩ = false := HM7.out.rb.frozen 0; have v1 : w7.cell? ⟨g + 1, 0, none⟩ = some (.bool false) := HM7.out.rb.cell 0)
                          | fail)
                        have hL := HLe.out w7 HB7.out HBE.out.symm
                        exact ⟨hL.1, rfl, hL.2⟩
                    case done =>
                      rintro D ys W hD hS ⟨hm, hp⟩ hKD
                      have hTt : T = true := by
                        rw [HT.out, HRow.out, ← HSix.out, ← hS, hp]
                        simp
                      subst hTt
                      have u0 : W.cell? ⟨g + 1, 0, none⟩ = some (.bool false) := hm.rb.cell 0
                      have v0 : W.frozen? ⟨g + 1, 0, none⟩ = false := hm.rb.frozen 0
                      have HMW := Lib.hid hm
                      have HKD := Lib.hid hKD
                      have HD2 := Lib.hid (show w6.heap.size ≤ D from hD)
                      subst ha0
                      clear hm hp hS hKD hD HST HM6 HSQ
                      go_wp2_with fail
                      have hKs := (KeepsOthers.setCell W ⟨g + 1, 0, none⟩ (.bool true)).same D _ HKD.out rfl
                      refine ⟨by simp, .inl ⟨_, _, rfl, run_takeDeferred hKs, ?_⟩⟩
                      exact ⟨_, results_cell_one rfl _ _ (g + 1) (.bool true) rfl (load4 ((HMW.out.rb.set_ 0 _).grown (grownBy_putObj' _ D _) (fun e => by injection e with e; have := HD2.out; omega))), rfl,
                        (HMW.out.bl.setCell (p := ⟨g + 1, 0, none⟩) hwg _).trans (belowK_b (w := w) (Nat.le_refl _) _ D _ (.deferred none) (by have := HD2.out; omega) hKs rfl rfl)⟩
                    case stop =>
                      rintro D cd ys W hD hS ⟨rfl, hbl, hbk, hf⟩ hKD
                      have hTt : T = false := by
                        have h2 : [x1, x2, x3, x4, x5, x6].all (fun x => richesE x.wh x.y) = false := by
                          obtain ⟨zs, hz⟩ := hS
                          rw [← hz, List.all_append, hf]; rfl
                        rw [HT.out, ← HSix.out, h2]
                        simp
                      subst hTt
                      subst ha0
                      have HBL := Lib.hid hbl
                      have HBK := Lib.hid hbk
                      have HKD := Lib.hid hKD
                      have HD2 := Lib.hid (show w6.heap.size ≤ D from hD)
                      clear hbl hbk hf hS hKD hD HST HM6 HSQ
                      gi_wp2
                      refine ⟨by simp, .inl ⟨_, _, rfl, run_takeDeferred HKD.out, ?_⟩⟩
                      exact ⟨_, results_cell_one rfl _ _ (g + 1) (.bool false) rfl (load4 (HBK.out.grown (grownBy_putObj' _ D _) (fun e => by injection e with e; have := HD2.out; omega))), rfl,
                        HBL.out.trans (belowK_b (w := w) (Nat.le_refl _) _ D _ (.deferred none) (by have := HD2.out; omega) HKD.out rfl rfl)⟩
end Go.Proofs.YtdpjjnbelgaagaaGreatDoor

namespace Go.Proofs.YtdpjjnbelgaagaaGreatDoor
open Go.ChangeShapes Go.WideShapes Go.ChangeAt Go.RowKit
set_option maxRecDepth 100000


set_option maxHeartbeats 4000000 in
theorem ifP_cCheck1 (W0 : World) (l : List PkgD) (vl : Value) (hl : LIn pkgK anyB W0 l vl) (P : PkgD → Bool) (w : World) (hB : Below W0.heap.size W0 w)
    (one : ∀ x ∈ l, ∀ (r : pkgK.R) (w' : World), pkgK.holds anyB W0 x r → Below w.heap.size w w' → Calls Tryz.prog 33 #[x.val r] w' fun e w'' => e = .returned (.bool (P x)) ∧ Below w'.heap.size w' w'') :
    Calls Tryz.prog 81 #[vl, .func (.func 33) #[] #[]] w (IPost (l.any P) l.length w) := by
  obtain ⟨a, c, rfl⟩ := hl.form
  have hn := hl.bound
  have HL := Lib.hid hl
  have HO := Lib.hid one
  have HBW := Lib.hid hB
  have HB0 := Lib.hid (Below.refl w.heap.size w)
  obtain ⟨T, hT⟩ : ∃ T, T = l.any P := ⟨_, rfl⟩
  rw [← hT]
  have HT := Lib.hid hT
  clear hl one hB hT
  go_enter Tryz.func81, Tryz.ntmps81
  go_wp2_with fail
  go_loopw [5, 8] (fun y i wr => ∃ k : Nat, k ≤ l.length ∧ i = .int .i64 k ∧ Hid ((l.take k).any P = false ∧ Below w.heap.size w wr)) (fun y i wr => l.length - (intOf i).toNat)
  case atStart => exact ⟨0, by omega, rfl, Lib.hid ⟨rfl, HB0.out⟩⟩
  case round =>
    obtain ⟨k, hk, rfl, HQ⟩ := hrel
    by_cases hlt : k < l.length
    · have hki : (k : Int) < (l.length : Int) := by omega
      obtain ⟨b, o, r, ha, _, hcs0, hh⟩ := HL.out.at_ k hlt
      obtain ⟨x, hx⟩ : ∃ x, x = l[k] := ⟨_, rfl⟩
      have HX := Lib.hid (show l.take (k + 1) = l.take k ++ [x] from by rw [hx]; exact List.take_succ_eq_append_getElem hlt)
      have hmem : x ∈ l := by rw [hx]; exact List.getElem_mem _
      have HMem := Lib.hid hmem
      rw [← hx] at hcs0 hh
      subst ha
      dsimp only [pkgK] at hcs0 r
      have hcs := hcs0.same ((HBW.out.trans (HQ.out.2.mono HBW.out.size)).block b hcs0.1) (HBW.out.trans (HQ.out.2.mono HBW.out.size)).size
      have e0 : wr.cell? ⟨b, o + k * 15, none⟩ = some (.string x.name) := hcs.2 0 (show 0 < 15 by omega)
      have e1 : wr.cell? ⟨b, o + k * 15 + 1, none⟩ = some (.int .i64 x.ep) := hcs.2 1 (show 1 < 15 by omega)
      have e2 : wr.cell? ⟨b, o + k * 15 + 2, none⟩ = some (.string x.ver) := hcs.2 2 (show 2 < 15 by omega)
      have e3 : wr.cell? ⟨b, o + k * 15 + 3, none⟩ = some (.string x.rel) := hcs.2 3 (show 3 < 15 by omega)
      have e4 : wr.cell? ⟨b, o + k * 15 + 4, none⟩ = some (.int .u8 x.arch) := hcs.2 4 (show 4 < 15 by omega)
      have e5 : wr.cell? ⟨b, o + k * 15 + 5, none⟩ = some (.string x.vendor) := hcs.2 5 (show 5 < 15 by omega)
      have e6 : wr.cell? ⟨b, o + k * 15 + 6, none⟩ = some (r.prov) := hcs.2 6 (show 6 < 15 by omega)
      have e7 : wr.cell? ⟨b, o + k * 15 + 7, none⟩ = some (r.req) := hcs.2 7 (show 7 < 15 by omega)
      have e8 : wr.cell? ⟨b, o + k * 15 + 8, none⟩ = some (r.con) := hcs.2 8 (show 8 < 15 by omega)
      have e9 : wr.cell? ⟨b, o + k * 15 + 9, none⟩ = some (r.obs) := hcs.2 9 (show 9 < 15 by omega)
      have e10 : wr.cell? ⟨b, o + k * 15 + 10, none⟩ = some (r.reco) := hcs.2 10 (show 10 < 15 by omega)
      have e11 : wr.cell? ⟨b, o + k * 15 + 11, none⟩ = some (r.sup) := hcs.2 11 (show 11 < 15 by omega)
      have e12 : wr.cell? ⟨b, o + k * 15 + 12, none⟩ = some (r.sug) := hcs.2 12 (show 12 < 15 by omega)
      have e13 : wr.cell? ⟨b, o + k * 15 + 13, none⟩ = some (r.enh) := hcs.2 13 (show 13 < 15 by omega)
      have e14 : wr.cell? ⟨b, o + k * 15 + 14, none⟩ = some (r.files) := hcs.2 14 (show 14 < 15 by omega)
      have eb : b < wr.heap.size := hcs.1
      have HM := Lib.hid (HO.out x hmem _ wr hh HQ.out.2)
      obtain ⟨pb, hpb⟩ : ∃ pb, pb = P x := ⟨_, rfl⟩
      rw [← hpb] at HM
      have HPb := Lib.hid hpb
      clear hcs hcs0 hh hx hmem hpb
      cases pb with
      | true =>
        have HT2 := Lib.hid (show T = true from HT.out.trans (List.any_eq_true.2 ⟨x, HMem.out, HPb.out.symm⟩))
        go_wp2_with (first
          | (go_at_call 33; (with_reducible refine HM.out.mono ?_); rintro e w2 ⟨rfl, HBc⟩; have HB2 := Lib.hid (HQ.out.2.trans (HBc.mono HQ.out.2.size)); clear HBc)
          | fail)
        go_ret
        exact ⟨(k : Int), rfl, by rw [HT2.out]; exact decide_eq_true (by omega), by omega, by omega, HB2.out⟩
      | false =>
        go_wp2_with (first
          | (go_at_call 33; (with_reducible refine HM.out.mono ?_); rintro e w2 ⟨rfl, HBc⟩; have HB2 := Lib.hid (HQ.out.2.trans (HBc.mono HQ.out.2.size)); clear HBc)
          | fail)
        go_roundw
        case rel => exact ⟨k + 1, by omega, by go_num, Lib.hid ⟨by rw [HX.out, List.any_append, HQ.out.1]; simp [← HPb.out], HB2.out⟩⟩
        case measure => simp [intOf]; omega
    · obtain rfl : k = l.length := by omega
      have HT2 := Lib.hid (show T = false from by have := HQ.out.1; rw [List.take_length] at this; exact HT.out.trans this)
      go_wp2_with fail
      go_ret
      exact ⟨-1, rfl, by rw [HT2.out]; rfl, by omega, by omega, HQ.out.2⟩
theorem cfP_cCheck1 (W0 : World) (l : List PkgD) (vl : Value) (hl : LIn pkgK anyB W0 l vl) (P : PkgD → Bool) (w : World) (hB : Below W0.heap.size W0 w)
    (one : ∀ x ∈ l, ∀ (r : pkgK.R) (w' : World), pkgK.holds anyB W0 x r → Below w.heap.size w w' → Calls Tryz.prog 33 #[x.val r] w' fun e w'' => e = .returned (.bool (P x)) ∧ Below w'.heap.size w' w'') :
    Calls Tryz.prog 38 #[vl, .func (.func 33) #[] #[]] w fun e w' => e = .returned (.bool (l.any P)) ∧ Below w.heap.size w w' := by
  have HI := Lib.hid (ifP_cCheck1 W0 l vl hl P w hB one)
  obtain ⟨T, hT⟩ : ∃ T, T = l.any P := ⟨_, rfl⟩
  rw [← hT] at HI ⊢
  clear hl one hB hT
  go_enter Tryz.func38, Tryz.ntmps38
  go_wp2_with (first
    | (go_at_call 81; (with_reducible refine HI.out.mono ?_); rintro e w1 ⟨i, rfl, hi, h1, h2, HBc⟩; have HI2 := Lib.hid hi; clear hi)
    | fail)
  go_ret
  exact ⟨ret_bool HI2.out, HBc⟩
set_option maxHeartbeats 4000000 in
theorem ifO_cCheck2 (W0 : World) (l : List RepoD) (vl : Value) (hl : LIn repoK anyB W0 l vl) (P : RepoD → Bool) (w : World) (hB : Below W0.heap.size W0 w)
    (one : ∀ x ∈ l, ∀ (r : repoK.R) (w' : World), repoK.holds anyB W0 x r → Below w.heap.size w w' → Calls Tryz.prog 36 #[.agg #[.int .i64 x.prio, r]] w' fun e w'' => e = .returned (.bool (P x)) ∧ Below w'.heap.size w' w'') :
    Calls Tryz.prog 80 #[vl, .func (.func 36) #[] #[]] w (IPost (l.any P) l.length w) := by
  obtain ⟨a, c, rfl⟩ := hl.form
  have hn := hl.bound
  have HL := Lib.hid hl
  have HO := Lib.hid one
  have HBW := Lib.hid hB
  have HB0 := Lib.hid (Below.refl w.heap.size w)
  obtain ⟨T, hT⟩ : ∃ T, T = l.any P := ⟨_, rfl⟩
  rw [← hT]
  have HT := Lib.hid hT
  clear hl one hB hT
  go_enter Tryz.func80, Tryz.ntmps80
  go_wp2_with fail
  go_loopw [5, 8] (fun y i wr => ∃ k : Nat, k ≤ l.length ∧ i = .int .i64 k ∧ Hid ((l.take k).any P = false ∧ Below w.heap.size w wr)) (fun y i wr => l.length - (intOf i).toNat)
  case atStart => exact ⟨0, by omega, rfl, Lib.hid ⟨rfl, HB0.out⟩⟩
  case round =>
    obtain ⟨k, hk, rfl, HQ⟩ := hrel
    by_cases hlt : k < l.length
    · have hki : (k : Int) < (l.length : Int) := by omega
      obtain ⟨b, o, r, ha, _, hcs0, hh⟩ := HL.out.at_ k hlt
      obtain ⟨x, hx⟩ : ∃ x, x = l[k] := ⟨_, rfl⟩
      have HX := Lib.hid (show l.take (k + 1) = l.take k ++ [x] from by rw [hx]; exact List.take_succ_eq_append_getElem hlt)
      have hmem : x ∈ l := by rw [hx]; exact List.getElem_mem _
      have HMem := Lib.hid hmem
      rw [← hx] at hcs0 hh
      subst ha
      dsimp only [repoK] at hcs0 r
      have hcs := hcs0.same ((HBW.out.trans (HQ.out.2.mono HBW.out.size)).block b hcs0.1) (HBW.out.trans (HQ.out.2.mono HBW.out.size)).size
      have e0 : wr.cell? ⟨b, o + k * 2, none⟩ = some (.int .i64 x.prio) := hcs.2 0 (show 0 < 2 by omega)
      have e1 : wr.cell? ⟨b, o + k * 2 + 1, none⟩ = some (r) := hcs.2 1 (show 1 < 2 by omega)
      have eb : b < wr.heap.size := hcs.1
      have HM := Lib.hid (HO.out x hmem _ wr hh HQ.out.2)
      obtain ⟨pb, hpb⟩ : ∃ pb, pb = P x := ⟨_, rfl⟩
      rw [← hpb] at HM
      have HPb := Lib.hid hpb
      clear hcs hcs0 hh hx hmem hpb
      cases pb with
      | true =>
        have HT2 := Lib.hid (show T = true from HT.out.trans (List.any_eq_true.2 ⟨x, HMem.out, HPb.out.symm⟩))
        go_wp2_with (first
          | (go_at_call 36; (with_reducible refine HM.out.mono ?_); rintro e w2 ⟨rfl, HBc⟩; have HB2 := Lib.hid (HQ.out.2.trans (HBc.mono HQ.out.2.size)); clear HBc)
          | fail)
        go_ret
        exact ⟨(k : Int), rfl, by rw [HT2.out]; exact decide_eq_true (by omega), by omega, by omega, HB2.out⟩
      | false =>
        go_wp2_with (first
          | (go_at_call 36; (with_reducible refine HM.out.mono ?_); rintro e w2 ⟨rfl, HBc⟩; have HB2 := Lib.hid (HQ.out.2.trans (HBc.mono HQ.out.2.size)); clear HBc)
          | fail)
        go_roundw
        case rel => exact ⟨k + 1, by omega, by go_num, Lib.hid ⟨by rw [HX.out, List.any_append, HQ.out.1]; simp [← HPb.out], HB2.out⟩⟩
        case measure => simp [intOf]; omega
    · obtain rfl : k = l.length := by omega
      have HT2 := Lib.hid (show T = false from by have := HQ.out.1; rw [List.take_length] at this; exact HT.out.trans this)
      go_wp2_with fail
      go_ret
      exact ⟨-1, rfl, by rw [HT2.out]; rfl, by omega, by omega, HQ.out.2⟩
theorem cfO_cCheck2 (W0 : World) (l : List RepoD) (vl : Value) (hl : LIn repoK anyB W0 l vl) (P : RepoD → Bool) (w : World) (hB : Below W0.heap.size W0 w)
    (one : ∀ x ∈ l, ∀ (r : repoK.R) (w' : World), repoK.holds anyB W0 x r → Below w.heap.size w w' → Calls Tryz.prog 36 #[.agg #[.int .i64 x.prio, r]] w' fun e w'' => e = .returned (.bool (P x)) ∧ Below w'.heap.size w' w'') :
    Calls Tryz.prog 35 #[vl, .func (.func 36) #[] #[]] w fun e w' => e = .returned (.bool (l.any P)) ∧ Below w.heap.size w w' := by
  have HI := Lib.hid (ifO_cCheck2 W0 l vl hl P w hB one)
  obtain ⟨T, hT⟩ : ∃ T, T = l.any P := ⟨_, rfl⟩
  rw [← hT] at HI ⊢
  clear hl one hB hT
  go_enter Tryz.func35, Tryz.ntmps35
  go_wp2_with (first
    | (go_at_call 80; (with_reducible refine HI.out.mono ?_); rintro e w1 ⟨i, rfl, hi, h1, h2, HBc⟩; have HI2 := Lib.hid hi; clear hi)
    | fail)
  go_ret
  exact ⟨ret_bool HI2.out, HBc⟩
set_option maxHeartbeats 4000000 in
theorem ifO_cCheck3 (W0 : World) (l : List RepoD) (vl : Value) (hl : LIn repoK anyB W0 l vl) (bc : Nat) (P : RepoD → Bool) (w : World) (hB : Below W0.heap.size W0 w)
    (one : ∀ x ∈ l, ∀ (r : repoK.R) (w' : World), repoK.holds anyB W0 x r → Below w.heap.size w w' → Calls Tryz.prog 37 #[.agg #[.int .i64 x.prio, r], .pointer (some ⟨bc, 0, none⟩)] w' fun e w'' => e = .returned (.bool (P x)) ∧ Below w'.heap.size w' w'') :
    Calls Tryz.prog 80 #[vl, .func (.func 37) #[] #[.pointer (some ⟨bc, 0, none⟩)]] w (IPost (l.any P) l.length w) := by
  obtain ⟨a, c, rfl⟩ := hl.form
  have hn := hl.bound
  have HL := Lib.hid hl
  have HO := Lib.hid one
  have HBW := Lib.hid hB
  have HB0 := Lib.hid (Below.refl w.heap.size w)
  obtain ⟨T, hT⟩ : ∃ T, T = l.any P := ⟨_, rfl⟩
  rw [← hT]
  have HT := Lib.hid hT
  clear hl one hB hT
  go_enter Tryz.func80, Tryz.ntmps80
  go_wp2_with fail
  go_loopw [5, 8] (fun y i wr => ∃ k : Nat, k ≤ l.length ∧ i = .int .i64 k ∧ Hid ((l.take k).any P = false ∧ Below w.heap.size w wr)) (fun y i wr => l.length - (intOf i).toNat)
  case atStart => exact ⟨0, by omega, rfl, Lib.hid ⟨rfl, HB0.out⟩⟩
  case round =>
    obtain ⟨k, hk, rfl, HQ⟩ := hrel
    by_cases hlt : k < l.length
    · have hki : (k : Int) < (l.length : Int) := by omega
      obtain ⟨b, o, r, ha, _, hcs0, hh⟩ := HL.out.at_ k hlt
      obtain ⟨x, hx⟩ : ∃ x, x = l[k] := ⟨_, rfl⟩
      have HX := Lib.hid (show l.take (k + 1) = l.take k ++ [x] from by rw [hx]; exact List.take_succ_eq_append_getElem hlt)
      have hmem : x ∈ l := by rw [hx]; exact List.getElem_mem _
      have HMem := Lib.hid hmem
      rw [← hx] at hcs0 hh
      subst ha
      dsimp only [repoK] at hcs0 r
      have hcs := hcs0.same ((HBW.out.trans (HQ.out.2.mono HBW.out.size)).block b hcs0.1) (HBW.out.trans (HQ.out.2.mono HBW.out.size)).size
      have e0 : wr.cell? ⟨b, o + k * 2, none⟩ = some (.int .i64 x.prio) := hcs.2 0 (show 0 < 2 by omega)
      have e1 : wr.cell? ⟨b, o + k * 2 + 1, none⟩ = some (r) := hcs.2 1 (show 1 < 2 by omega)
      have eb : b < wr.heap.size := hcs.1
      have HM := Lib.hid (HO.out x hmem _ wr hh HQ.out.2)
      obtain ⟨pb, hpb⟩ : ∃ pb, pb = P x := ⟨_, rfl⟩
      rw [← hpb] at HM
      have HPb := Lib.hid hpb
      clear hcs hcs0 hh hx hmem hpb
      cases pb with
      | true =>
        have HT2 := Lib.hid (show T = true from HT.out.trans (List.any_eq_true.2 ⟨x, HMem.out, HPb.out.symm⟩))
        go_wp2_with (first
          | (go_at_call 37; (with_reducible refine HM.out.mono ?_); rintro e w2 ⟨rfl, HBc⟩; have HB2 := Lib.hid (HQ.out.2.trans (HBc.mono HQ.out.2.size)); clear HBc)
          | fail)
        go_ret
        exact ⟨(k : Int), rfl, by rw [HT2.out]; exact decide_eq_true (by omega), by omega, by omega, HB2.out⟩
      | false =>
        go_wp2_with (first
          | (go_at_call 37; (with_reducible refine HM.out.mono ?_); rintro e w2 ⟨rfl, HBc⟩; have HB2 := Lib.hid (HQ.out.2.trans (HBc.mono HQ.out.2.size)); clear HBc)
          | fail)
        go_roundw
        case rel => exact ⟨k + 1, by omega, by go_num, Lib.hid ⟨by rw [HX.out, List.any_append, HQ.out.1]; simp [← HPb.out], HB2.out⟩⟩
        case measure => simp [intOf]; omega
    · obtain rfl : k = l.length := by omega
      have HT2 := Lib.hid (show T = false from by have := HQ.out.1; rw [List.take_length] at this; exact HT.out.trans this)
      go_wp2_with fail
      go_ret
      exact ⟨-1, rfl, by rw [HT2.out]; rfl, by omega, by omega, HQ.out.2⟩
theorem cfO_cCheck3 (W0 : World) (l : List RepoD) (vl : Value) (hl : LIn repoK anyB W0 l vl) (bc : Nat) (P : RepoD → Bool) (w : World) (hB : Below W0.heap.size W0 w)
    (one : ∀ x ∈ l, ∀ (r : repoK.R) (w' : World), repoK.holds anyB W0 x r → Below w.heap.size w w' → Calls Tryz.prog 37 #[.agg #[.int .i64 x.prio, r], .pointer (some ⟨bc, 0, none⟩)] w' fun e w'' => e = .returned (.bool (P x)) ∧ Below w'.heap.size w' w'') :
    Calls Tryz.prog 35 #[vl, .func (.func 37) #[] #[.pointer (some ⟨bc, 0, none⟩)]] w fun e w' => e = .returned (.bool (l.any P)) ∧ Below w.heap.size w w' := by
  have HI := Lib.hid (ifO_cCheck3 W0 l vl hl bc P w hB one)
  obtain ⟨T, hT⟩ : ∃ T, T = l.any P := ⟨_, rfl⟩
  rw [← hT] at HI ⊢
  clear hl one hB hT
  go_enter Tryz.func35, Tryz.ntmps35
  go_wp2_with (first
    | (go_at_call 80; (with_reducible refine HI.out.mono ?_); rintro e w1 ⟨i, rfl, hi, h1, h2, HBc⟩; have HI2 := Lib.hid hi; clear hi)
    | fail)
  go_ret
  exact ⟨ret_bool HI2.out, HBc⟩
end Go.Proofs.YtdpjjnbelgaagaaGreatDoor

namespace Go.Proofs.YtdpjjnbelgaagaaGreatDoor
open Go.ChangeShapes Go.WideShapes Go.ChangeAt Go.RowKit Go.Deep
set_option maxRecDepth 100000

set_option maxHeartbeats 2000000 in
theorem check1_any (W0 : World) (p : PkgD) (r : PkgR) (w : World) (hp : PkgIn anyB W0 p r) (hc : p.few) (hB : Below W0.heap.size W0 w) (hW : Words w) (hO : Ops w) :
    Calls Tryz.prog 33 #[p.val r] w fun e w' => e = .returned (.bool (!mayP p)) ∧ Below w.heap.size w w' := by
  rcases r with ⟨r1, r2, r3, r4, r5, r6, r7, r8, r9⟩
  obtain ⟨a1, q1, (rfl : r1 = _)⟩ := hp.prov.form
  obtain ⟨a2, q2, (rfl : r2 = _)⟩ := hp.req.form
  obtain ⟨a3, q3, (rfl : r3 = _)⟩ := hp.con.form
  obtain ⟨a4, q4, (rfl : r4 = _)⟩ := hp.obs.form
  obtain ⟨a5, q5, (rfl : r5 = _)⟩ := hp.reco.form
  obtain ⟨a6, q6, (rfl : r6 = _)⟩ := hp.sup.form
  obtain ⟨a7, q7, (rfl : r7 = _)⟩ := hp.sug.form
  obtain ⟨a8, q8, (rfl : r8 = _)⟩ := hp.enh.form
  obtain ⟨a9, q9, (rfl : r9 = _)⟩ := hp.files.form
  have hnb := new_b w (.cells #[.string p.name, .int .i64 p.ep, .string p.ver, .string p.rel, .int .u8 p.arch, .string p.vendor, .slice a1 p.prov.length q1, .slice a2 (argL p.req).length q2, .slice a3 (argL p.con).length q3, .slice a4 p.obs.length q4, .slice a5 (argL p.reco).length q5, .slice a6 (argL p.sup).length q6, .slice a7 (argL p.sug).length q7, .slice a8 (argL p.enh).length q8, .slice a9 p.files.length q9] 29)
  have HB1 := Lib.hid hnb
  have HM := Lib.hid (show Calls Tryz.prog 34 #[.agg #[.string p.name, .int .i64 p.ep, .string p.ver, .string p.rel, .int .u8 p.arch, .string p.vendor, .slice a1 p.prov.length q1, .slice a2 (argL p.req).length q2, .slice a3 (argL p.con).length q3, .slice a4 p.obs.length q4, .slice a5 (argL p.reco).length q5, .slice a6 (argL p.sup).length q6, .slice a7 (argL p.sug).length q7, .slice a8 (argL p.enh).length q8, .slice a9 p.files.length q9]] (w.alloc (.cells #[.string p.name, .int .i64 p.ep, .string p.ver, .string p.rel, .int .u8 p.arch, .string p.vendor, .slice a1 p.prov.length q1, .slice a2 (argL p.req).length q2, .slice a3 (argL p.con).length q3, .slice a4 p.obs.length q4, .slice a5 (argL p.reco).length q5, .slice a6 (argL p.sup).length q6, .slice a7 (argL p.sug).length q7, .slice a8 (argL p.enh).length q8, .slice a9 p.files.length q9] 29)) fun e w' => e = .returned (.bool (mayP p)) ∧ Below (w.alloc (.cells #[.string p.name, .int .i64 p.ep, .string p.ver, .string p.rel, .int .u8 p.arch, .string p.vendor, .slice a1 p.prov.length q1, .slice a2 (argL p.req).length q2, .slice a3 (argL p.con).length q3, .slice a4 p.obs.length q4, .slice a5 (argL p.reco).length q5, .slice a6 (argL p.sup).length q6, .slice a7 (argL p.sug).length q7, .slice a8 (argL p.enh).length q8, .slice a9 p.files.length q9] 29)).heap.size (w.alloc (.cells #[.string p.name, .int .i64 p.ep, .string p.ver, .string p.rel, .int .u8 p.arch, .string p.vendor, .slice a1 p.prov.length q1, .slice a2 (argL p.req).length q2, .slice a3 (argL p.con).length q3, .slice a4 p.obs.length q4, .slice a5 (argL p.reco).length q5, .slice a6 (argL p.sup).length q6, .slice a7 (argL p.sug).length q7, .slice a8 (argL p.enh).length q8, .slice a9 p.files.length q9] 29)) w' from
    kmay_any W0 p _ hp _ (hB.trans (hnb.mono hB.size)) hc (hW.below hnb) (hO.below hnb))
  obtain ⟨m, hm⟩ : ∃ m, m = mayP p := ⟨_, rfl⟩
  rw [← hm] at HM ⊢
  clear hp hc hB hW hO hnb hm
  unfold PkgD.val
  go_enter Tryz.func33, Tryz.ntmps33
  go_wp2_with (first
    | (go_at_call 34; (with_reducible refine HM.out.mono ?_); rintro e w2 ⟨rfl, HBc⟩; have HB2 := Lib.hid (below_t' HB1.out HBc); clear HBc)
    | fail)
  go_ret
  exact ⟨rfl, HB2.out⟩
def prioE (x : RepoD) : Bool := decide (0 ≤ x.prio) && decide (x.prio ≤ 1024)
theorem check2_any (x : RepoD) (r : Value) (w : World) (hr : ∃ a c, r = .slice a x.pkgs.length c) : Calls Tryz.prog 36 #[.agg #[.int .i64 x.prio, r]] w fun e w' => e = .returned (.bool (!prioE x)) ∧ Below w.heap.size w w' := by
  obtain ⟨a, c, rfl⟩ := hr
  have HB := Lib.hid (new_b w (.cells #[.int .i64 x.prio, .slice a x.pkgs.length c] 38))
  unfold prioE
  obtain ⟨n, hn⟩ : ∃ n, n = x.prio := ⟨_, rfl⟩
  rw [← hn] at HB ⊢
  clear hn
  by_cases h0 : n < 0
  · have d0 : decide (n < 0) = true := by simpa using h0
    rw [decide_eq_false (show ¬ 0 ≤ n by omega)]
    go_enter Tryz.func36, Tryz.ntmps36
    go_wp2_with fail
    go_ret
    exact ⟨rfl, HB.out⟩
  · have d0 : decide (n < 0) = false := by simpa using h0
    rw [decide_eq_true (show 0 ≤ n by omega)]
    by_cases h1 : 1024 < n
    · have d1 : decide (1024 < n) = true := by simpa using h1
      rw [decide_eq_false (show ¬ n ≤ 1024 by omega)]
      go_enter Tryz.func36, Tryz.ntmps36
      go_wp2_with fail
      go_ret
      exact ⟨rfl, HB.out⟩
    · have d1 : decide (1024 < n) = false := by simpa using h1
      rw [decide_eq_true (show n ≤ 1024 by omega)]
      go_enter Tryz.func36, Tryz.ntmps36
      go_wp2_with fail
      go_ret
      exact ⟨rfl, HB.out⟩
abbrev badV : Value := .func (.func 33) #[] #[]
theorem all_not {α : Type} (l : List α) (f : α → Bool) : (l.any fun x => !(f x)) = !(l.all f) := by rw [List.not_all_eq_any_not]
theorem badpkgs_any (W0 : World) (l : List PkgD) (vl : Value) (w : World) (hl : LIn pkgK anyB W0 l vl) (hc : ∀ p ∈ l, p.few) (hB : Below W0.heap.size W0 w) (hW : Words w) (hO : Ops w) :
    Calls Tryz.prog 38 #[vl, badV] w fun e w' => e = .returned (.bool (!(l.all mayP))) ∧ Below w.heap.size w w' := by
  rw [← all_not]
  exact cfP_cCheck1 W0 l vl hl (fun p => !(mayP p)) w hB fun p hp r w' hh hw' => check1_any W0 p r w' hh (hc p hp) (hB.trans (hw'.mono hB.size)) (hW.below hw') (hO.below hw')
set_option maxHeartbeats 2000000 in
theorem check3_any (W0 : World) (x : RepoD) (r : Value) (bc : Nat) (w : World) (hr : LIn pkgK anyB W0 x.pkgs r) (hc : ∀ p ∈ x.pkgs, p.few) (hb : Blk w bc 75 #[badV]) (hB : Below W0.heap.size W0 w) (hW : Words w) (hO : Ops w) :
    Calls Tryz.prog 37 #[.agg #[.int .i64 x.prio, r], .pointer (some ⟨bc, 0, none⟩)] w fun e w' => e = .returned (.bool (!(x.pkgs.all mayP))) ∧ Below w.heap.size w w' := by
  obtain ⟨a, c, rfl⟩ := hr.form
  have c0 : w.cell? ⟨bc, 0, none⟩ = some badV := hb.cell 0
  have cl : bc < w.heap.size := hb.lt
  have hnb := new_b w (.cells #[.int .i64 x.prio, .slice a x.pkgs.length c] 38)
  have HB1 := Lib.hid hnb
  have HM := Lib.hid (badpkgs_any W0 x.pkgs _ _ hr hc (hB.trans (hnb.mono hB.size)) (hW.below hnb) (hO.below hnb))
  obtain ⟨m, hm⟩ : ∃ m, m = !(x.pkgs.all mayP) := ⟨_, rfl⟩
  rw [← hm] at HM ⊢
  clear hr hc hB hW hO hnb hm hb
  go_enter Tryz.func37, Tryz.ntmps37
  go_wp2_with (first
    | (go_at_call 38; (with_reducible refine HM.out.mono ?_); rintro e w2 ⟨rfl, HBc⟩; have HB2 := Lib.hid (below_t' HB1.out HBc); clear HBc)
    | fail)
  go_ret
  exact ⟨rfl, HB2.out⟩
structure DataD.few (d : DataD) : Prop where
  r : ∀ x ∈ d.repos, ∀ p ∈ x.pkgs, p.few
  i : ∀ p ∈ d.inst, p.few
  t : d.total ≤ 4611686018427387904
theorem sumP_take {l : List RepoD} {k : Nat} (h : k < l.length) : sumP (l.take (k + 1)) = sumP (l.take k) + l[k].pkgs.length := by
  unfold sumP
  rw [List.take_succ_eq_append_getElem h]
  simp only [List.map_append, List.map_cons, List.map_nil, List.sum_append, List.sum_cons, List.sum_nil, Nat.add_zero]
theorem sumP_le (l : List RepoD) (k : Nat) : sumP (l.take k) ≤ sumP l := by
  unfold sumP
  conv => rhs; rw [← List.take_append_drop k l]
  rw [List.map_append, List.sum_append]
  omega
set_option maxHeartbeats 4000000 in
theorem check_any (W0 : World) (d : DataD) (vr vi : Value) (hd : DataIn anyB W0 d vr vi) (w : World) (hB : Below W0.heap.size W0 w) (hf : d.few) (hW : Words w) (hO : Ops w) :
    Calls Tryz.prog 15 #[.agg #[vr, vi]] w fun e w' => e = .returned (.int .i64 (checkE d)) ∧ Below w.heap.size w w' := by
  obtain ⟨ar, cr, rfl⟩ := hd.repos.form
  obtain ⟨ai, ci, rfl⟩ := hd.inst.form
  have nr := hd.repos.bound
  have ni := hd.inst.bound
  have nt := hf.t
  rw [total_eq] at nt
  obtain ⟨T, hT⟩ : ∃ T, T = checkE d := ⟨_, rfl⟩
  rw [← hT]
  unfold checkE at hT
  rw [total_eq] at hT
  have HL := Lib.hid hd.repos
  have HBW := Lib.hid hB
  obtain ⟨g, hg⟩ : ∃ g, g = w.heap.size := ⟨_, rfl⟩
  obtain ⟨w1, hw1⟩ : ∃ w1, w1 = w.alloc (.cells #[.slice ar d.repos.length cr, .slice ai d.inst.length ci] 41) := ⟨_, rfl⟩
  have b1 : Below w.heap.size w w1 := by rw [hw1]; exact new_b _ _
  have k1 : Blk w1 g 41 #[.slice ar d.repos.length cr, .slice ai d.inst.length ci] := by rw [hw1, hg]; exact Blk.new _ _ _
  have HSt := Lib.hid (show Below w.heap.size w w1 ∧ Blk w1 g 41 #[.slice ar d.repos.length cr, .slice ai d.inst.length ci] from ⟨b1, k1⟩)
  have HStb := Lib.hid (show ∀ W W', (Below w.heap.size w W ∧ Blk W g 41 #[.slice ar d.repos.length cr, .slice ai d.inst.length ci]) → Below W.heap.size W W' → (Below w.heap.size w W' ∧ Blk W' g 41 #[.slice ar d.repos.length cr, .slice ai d.inst.length ci]) from fun W W' h hb => ⟨h.1.trans (hb.mono h.1.size), h.2.below hb h.2.lt⟩)
  have HC2 := Lib.hid (show ∀ W, Below w.heap.size w W → Calls Tryz.prog 35 #[.slice ar d.repos.length cr, .func (.func 36) #[] #[]] W fun e w' => e = .returned (.bool (!(d.repos.all prioE))) ∧ Below W.heap.size W w' from fun W h => by
    rw [← all_not]
    exact cfO_cCheck2 W0 d.repos _ hd.repos (fun x => !(prioE x)) W (hB.trans (h.mono hB.size)) fun x _ r w' hh _ => check2_any x r w' hh.2.form)
  have HC3 := Lib.hid (show ∀ W bc, Below w.heap.size w W → Blk W bc 75 #[badV] → Calls Tryz.prog 35 #[.slice ar d.repos.length cr, .func (.func 37) #[] #[.pointer (some ⟨bc, 0, none⟩)]] W fun e w' => e = .returned (.bool (!(d.repos.all fun x => x.pkgs.all mayP))) ∧ Below W.heap.size W w' from fun W bc h hb => by
    rw [← all_not]
    exact cfO_cCheck3 W0 d.repos _ hd.repos bc (fun x => !(x.pkgs.all mayP)) W (hB.trans (h.mono hB.size)) fun x hx r w' hh hw' => check3_any W0 x r bc w' hh.2 (hf.r x hx) (hb.below hw' hb.lt) (hB.trans ((h.trans (hw'.mono h.size)).mono hB.size)) (hW.below (below_t' h hw')) (hO.below (below_t' h hw')))
  have HC1 := Lib.hid (show ∀ W, Below w.heap.size w W → Calls Tryz.prog 38 #[.slice ai d.inst.length ci, badV] W fun e w' => e = .returned (.bool (!(d.inst.all mayP))) ∧ Below W.heap.size W w' from fun W h => badpkgs_any W0 d.inst _ W hd.inst hf.i (hB.trans (h.mono hB.size)) (hW.below h) (hO.below h))
  obtain ⟨p2, hp2⟩ : ∃ b, b = d.repos.all prioE := ⟨_, rfl⟩
  obtain ⟨p3, hp3⟩ : ∃ b, b = d.repos.all fun x => x.pkgs.all mayP := ⟨_, rfl⟩
  obtain ⟨p1, hp1⟩ : ∃ b, b = d.inst.all mayP := ⟨_, rfl⟩
  rw [show d.repos.all (fun r => decide (0 ≤ r.prio) && decide (r.prio ≤ 1024)) = d.repos.all prioE from rfl] at hT
  rw [← hp2] at hT HC2
  rw [← hp3] at hT HC3
  rw [← hp1] at hT HC1
  have d0 : w1.cell? ⟨g, 0, none⟩ = some (.slice ar d.repos.length cr) := k1.cell 0
  have d1 : w1.cell? ⟨g, 1, none⟩ = some (.slice ai d.inst.length ci) := k1.cell 1
  have dl : g < w1.heap.size := k1.lt
  obtain ⟨SP, hSP⟩ : ∃ s, s = sumP d.repos := ⟨_, rfl⟩
  rw [← hSP] at hT nt
  have HSP := Lib.hid hSP
  have HT := Lib.hid hT
  clear hd hB hf hW hO b1 k1 hp1 hp2 hp3 hT hSP
  go_enter Tryz.func15, Tryz.ntmps15
  go_upto_region 1 with fail
  rw [← hw1, ← hg]
  have HG := Lib.hid hg
  clear hw1 hg
  go_wp2_with fail
  clear d0 d1 dl
  go_loopw [3, 5, 13] (fun x y i wr => ∃ k q : Nat, k ≤ d.repos.length ∧ i = .int .i64 k ∧ x = .int .i64 (q : Int) ∧ q ≤ 4611686018427387904 ∧ Hid (q = d.inst.length + sumP (d.repos.take k) ∧ Below w.heap.size w wr ∧ Blk wr g 41 #[.slice ar d.repos.length cr, .slice ai d.inst.length ci])) (fun x y i wr => d.repos.length - (intOf i).toNat)
  case atStart => exact ⟨0, d.inst.length, by omega, rfl, rfl, ni, Lib.hid ⟨by simp [sumP], HSt.out⟩⟩
  case round =>
    obtain ⟨k, q, hk, rfl, rfl, hq, HQ⟩ := hrel
    have HSt := Lib.hid HQ.out.2
    by_cases hlt : k < d.repos.length
    · have hki : (k : Int) < (d.repos.length : Int) := by omega
      obtain ⟨b, o, r, ha, _, hcs0, hh⟩ := HL.out.at_ k hlt
      obtain ⟨x, hx⟩ : ∃ x, x = d.repos[k] := ⟨_, rfl⟩
      have hsum := sumP_take hlt
      have hsle := sumP_le d.repos (k + 1)
      rw [← hx] at hcs0 hh hsum
      subst ha
      dsimp only [repoK] at hcs0 r
      obtain ⟨ra, rc, rfl⟩ := hh.2.form
      have hcs := hcs0.same ((HBW.out.trans (HSt.out.1.mono HBW.out.size)).block b hcs0.1) (HBW.out.trans (HSt.out.1.mono HBW.out.size)).size
      have e0 : wr.cell? ⟨b, o + k * 2, none⟩ = some (.int .i64 x.prio) := hcs.2 0 (show 0 < 2 by omega)
      have e1 : wr.cell? ⟨b, o + k * 2 + 1, none⟩ = some (.slice ra x.pkgs.length rc) := hcs.2 1 (show 1 < 2 by omega)
      have eb : b < wr.heap.size := hcs.1
      have hqm : q + x.pkgs.length ≤ 4611686018427387904 := by have := HQ.out.1; have := HSP.out; omega
      have HSum := Lib.hid (show q + x.pkgs.length = d.inst.length + sumP (d.repos.take (k + 1)) by have := HQ.out.1; omega)
      clear hcs hcs0 hh hx hsum hsle
      go_wp2_with fail
      go_roundw
      case rel => exact ⟨k + 1, q + x.pkgs.length, by omega, by go_num, by go_num, hqm, Lib.hid ⟨HSum.out, HStb.out _ _ HSt.out (new_b _ _)⟩⟩
      case measure => simp [intOf]; omega
    · obtain rfl : k = d.repos.length := by omega
      have HQ2 := Lib.hid (show q = SP + d.inst.length by have := HQ.out.1; rw [List.take_length] at this; have := HSP.out; omega)
      have d0 : wr.cell? ⟨g, 0, none⟩ = some (.slice ar d.repos.length cr) := HSt.out.2.cell 0
      have d1 : wr.cell? ⟨g, 1, none⟩ = some (.slice ai d.inst.length ci) := HSt.out.2.cell 1
      have dl : g < wr.heap.size := HSt.out.2.lt
      by_cases h1 : 16 < d.repos.length
      · have c1 : decide ((16 : Int) < (d.repos.length : Int)) = true := by rw [decide_eq_true]; omega
        have c2 : (16 : Int) < (d.repos.length : Int) := by omega
        have HT2 := Lib.hid (show T = 40 by rw [HT.out, if_pos (.inl h1)])
        go_wp2_with fail
        go_ret
        exact ⟨ret_int HT2.out.symm, HSt.out.1⟩
      · have c1 : decide ((16 : Int) < (d.repos.length : Int)) = false := by rw [decide_eq_false]; omega
        have c2 : (d.repos.length : Int) ≤ 16 := by omega
        by_cases h2 : 256 < q
        · have c3 : decide ((256 : Int) < (q : Int)) = true := by rw [decide_eq_true]; omega
          have c4 : (256 : Int) < (q : Int) := by omega
          have HT2 := Lib.hid (show T = 40 by rw [HT.out, if_pos (.inr (by have := HQ2.out; omega))])
          go_wp2_with fail
          go_ret
          exact ⟨ret_int HT2.out.symm, HSt.out.1⟩
        · have c3 : decide ((256 : Int) < (q : Int)) = false := by rw [decide_eq_false]; omega
          have c4 : (q : Int) ≤ 256 := by omega
          have HT2 := Lib.hid (show T = if p2 = false then 20 else if (p3 && p1) = false then 4 else 0 by rw [HT.out, if_neg (by have := HQ2.out; omega)])
          have HB9 := Lib.hid (HStb.out _ _ HSt.out (new_b wr (.cells #[badV] 75)))
          have hb9 : Blk (wr.alloc (.cells #[badV] 75)) wr.heap.size 75 #[badV] := Blk.new _ _ _
          obtain ⟨w9, hw9⟩ : ∃ w9, w9 = wr.alloc (.cells #[badV] 75) := ⟨_, rfl⟩
          obtain ⟨bc, hbc⟩ : ∃ bc, bc = wr.heap.size := ⟨_, rfl⟩
          rw [← hw9] at HB9 hb9
          rw [← hbc] at hb9
          have e0 : w9.cell? ⟨g, 0, none⟩ = some (.slice ar d.repos.length cr) := HB9.out.2.cell 0
          have el : g < w9.heap.size := HB9.out.2.lt
          have HBc := Lib.hid hb9
          clear hb9 h1 h2
          have hsf := fun (a : Addr) (w : World) => run_store Tryz.prog w a badV .plain rfl
          go_upto_region 10 with fail
          rw [← hw9, ← hbc]
          clear hw9 hbc d0 d1 dl hsf
          have HSt := Lib.hid HB9.out
          cases p2 with
          | false =>
            have HT3 := Lib.hid (show T = 20 by rw [HT2.out]; rfl)
            go_wp2_with (first
              | (go_at_call 35; (with_reducible refine (HC2.out _ HSt.out.1).mono ?_); rintro e wx ⟨rfl, HBd⟩; have HSt := Lib.hid (HStb.out _ _ HSt.out HBd); have HBc := Lib.hid (HBc.out.below HBd HBc.out.lt); clear HBd; clear e0 el; have e0 : wx.cell? ⟨g, 0, none⟩ = some (.slice ar d.repos.length cr) := HSt.out.2.cell 0; have e1 : wx.cell? ⟨g, 1, none⟩ = some (.slice ai d.inst.length ci) := HSt.out.2.cell 1; have el : g < wx.heap.size := HSt.out.2.lt; have ec : wx.cell? ⟨bc, 0, none⟩ = some badV := HBc.out.cell 0; have ecl : bc < wx.heap.size := HBc.out.lt)
              | fail)
            go_ret
            exact ⟨ret_int HT3.out.symm, HSt.out.1⟩
          | true =>
            cases p3 with
            | false =>
              have HT3 := Lib.hid (show T = 4 by rw [HT2.out]; rfl)
              go_wp2_with (first
                | (go_at_call 35; (with_reducible refine (HC2.out _ HSt.out.1).mono ?_); rintro e wx ⟨rfl, HBd⟩; have HSt := Lib.hid (HStb.out _ _ HSt.out HBd); have HBc := Lib.hid (HBc.out.below HBd HBc.out.lt); clear HBd; clear e0 el; have e0 : wx.cell? ⟨g, 0, none⟩ = some (.slice ar d.repos.length cr) := HSt.out.2.cell 0; have e1 : wx.cell? ⟨g, 1, none⟩ = some (.slice ai d.inst.length ci) := HSt.out.2.cell 1; have el : g < wx.heap.size := HSt.out.2.lt; have ec : wx.cell? ⟨bc, 0, none⟩ = some badV := HBc.out.cell 0; have ecl : bc < wx.heap.size := HBc.out.lt)
                | (go_at_call 35; (with_reducible refine (HC3.out _ bc HSt.out.1 HBc.out).mono ?_); rintro e wx ⟨rfl, HBd⟩; clear e1 ec ecl; have HSt := Lib.hid (HStb.out _ _ HSt.out HBd); have HBc := Lib.hid (HBc.out.below HBd HBc.out.lt); clear HBd; clear e0 el; have e0 : wx.cell? ⟨g, 0, none⟩ = some (.slice ar d.repos.length cr) := HSt.out.2.cell 0; have e1 : wx.cell? ⟨g, 1, none⟩ = some (.slice ai d.inst.length ci) := HSt.out.2.cell 1; have el : g < wx.heap.size := HSt.out.2.lt; have ec : wx.cell? ⟨bc, 0, none⟩ = some badV := HBc.out.cell 0; have ecl : bc < wx.heap.size := HBc.out.lt)
                | fail)
              go_ret
              exact ⟨ret_int HT3.out.symm, HSt.out.1⟩
            | true =>
              cases p1 with
              | false =>
                have HT3 := Lib.hid (show T = 4 by rw [HT2.out]; rfl)
                go_wp2_with (first
                  | (go_at_call 35; (with_reducible refine (HC2.out _ HSt.out.1).mono ?_); rintro e wx ⟨rfl, HBd⟩; have HSt := Lib.hid (HStb.out _ _ HSt.out HBd); have HBc := Lib.hid (HBc.out.below HBd HBc.out.lt); clear HBd; clear e0 el; have e0 : wx.cell? ⟨g, 0, none⟩ = some (.slice ar d.repos.length cr) := HSt.out.2.cell 0; have e1 : wx.cell? ⟨g, 1, none⟩ = some (.slice ai d.inst.length ci) := HSt.out.2.cell 1; have el : g < wx.heap.size := HSt.out.2.lt; have ec : wx.cell? ⟨bc, 0, none⟩ = some badV := HBc.out.cell 0; have ecl : bc < wx.heap.size := HBc.out.lt)
                  | (go_at_call 35; (with_reducible refine (HC3.out _ bc HSt.out.1 HBc.out).mono ?_); rintro e wx ⟨rfl, HBd⟩; clear e1 ec ecl; have HSt := Lib.hid (HStb.out _ _ HSt.out HBd); have HBc := Lib.hid (HBc.out.below HBd HBc.out.lt); clear HBd; clear e0 el; have e0 : wx.cell? ⟨g, 0, none⟩ = some (.slice ar d.repos.length cr) := HSt.out.2.cell 0; have e1 : wx.cell? ⟨g, 1, none⟩ = some (.slice ai d.inst.length ci) := HSt.out.2.cell 1; have el : g < wx.heap.size := HSt.out.2.lt; have ec : wx.cell? ⟨bc, 0, none⟩ = some badV := HBc.out.cell 0; have ecl : bc < wx.heap.size := HBc.out.lt)
                  | (go_at_call 38; (with_reducible refine (HC1.out _ HSt.out.1).mono ?_); rintro e wx ⟨rfl, HBd⟩; clear e1 ec ecl; have HSt := Lib.hid (HStb.out _ _ HSt.out HBd); have HBc := Lib.hid (HBc.out.below HBd HBc.out.lt); clear HBd; clear e0 el; have e0 : wx.cell? ⟨g, 0, none⟩ = some (.slice ar d.repos.length cr) := HSt.out.2.cell 0; have e1 : wx.cell? ⟨g, 1, none⟩ = some (.slice ai d.inst.length ci) := HSt.out.2.cell 1; have el : g < wx.heap.size := HSt.out.2.lt; have ec : wx.cell? ⟨bc, 0, none⟩ = some badV := HBc.out.cell 0; have ecl : bc < wx.heap.size := HBc.out.lt)
                  | fail)
                go_ret
                exact ⟨ret_int HT3.out.symm, HSt.out.1⟩
              | true =>
                have HT3 := Lib.hid (show T = 0 by rw [HT2.out]; rfl)
                go_wp2_with (first
                  | (go_at_call 35; (with_reducible refine (HC2.out _ HSt.out.1).mono ?_); rintro e wx ⟨rfl, HBd⟩; have HSt := Lib.hid (HStb.out _ _ HSt.out HBd); have HBc := Lib.hid (HBc.out.below HBd HBc.out.lt); clear HBd; clear e0 el; have e0 : wx.cell? ⟨g, 0, none⟩ = some (.slice ar d.repos.length cr) := HSt.out.2.cell 0; have e1 : wx.cell? ⟨g, 1, none⟩ = some (.slice ai d.inst.length ci) := HSt.out.2.cell 1; have el : g < wx.heap.size := HSt.out.2.lt; have ec : wx.cell? ⟨bc, 0, none⟩ = some badV := HBc.out.cell 0; have ecl : bc < wx.heap.size := HBc.out.lt)
                  | (go_at_call 35; (with_reducible refine (HC3.out _ bc HSt.out.1 HBc.out).mono ?_); rintro e wx ⟨rfl, HBd⟩; clear e1 ec ecl; have HSt := Lib.hid (HStb.out _ _ HSt.out HBd); have HBc := Lib.hid (HBc.out.below HBd HBc.out.lt); clear HBd; clear e0 el; have e0 : wx.cell? ⟨g, 0, none⟩ = some (.slice ar d.repos.length cr) := HSt.out.2.cell 0; have e1 : wx.cell? ⟨g, 1, none⟩ = some (.slice ai d.inst.length ci) := HSt.out.2.cell 1; have el : g < wx.heap.size := HSt.out.2.lt; have ec : wx.cell? ⟨bc, 0, none⟩ = some badV := HBc.out.cell 0; have ecl : bc < wx.heap.size := HBc.out.lt)
                  | (go_at_call 38; (with_reducible refine (HC1.out _ HSt.out.1).mono ?_); rintro e wx ⟨rfl, HBd⟩; clear e1 ec ecl; have HSt := Lib.hid (HStb.out _ _ HSt.out HBd); have HBc := Lib.hid (HBc.out.below HBd HBc.out.lt); clear HBd; clear e0 el; have e0 : wx.cell? ⟨g, 0, none⟩ = some (.slice ar d.repos.length cr) := HSt.out.2.cell 0; have e1 : wx.cell? ⟨g, 1, none⟩ = some (.slice ai d.inst.length ci) := HSt.out.2.cell 1; have el : g < wx.heap.size := HSt.out.2.lt; have ec : wx.cell? ⟨bc, 0, none⟩ = some badV := HBc.out.cell 0; have ecl : bc < wx.heap.size := HBc.out.lt)
                  | fail)
                go_ret
                exact ⟨ret_int HT3.out.symm, HSt.out.1⟩
end Go.Proofs.YtdpjjnbelgaagaaGreatDoor

namespace Go.Proofs.YtdpjjnbelgaagaaGreatDoor
open Go.ChangeShapes Go.WideShapes Go.ChangeAt Go.RowKit Go.Deep
set_option maxRecDepth 100000

theorem encode_bad {d : DataD} {e : Int} (h : checkE d = e) (he : e ≠ 0) : encodeE d = ([], e) := by unfold encodeE; rw [if_neg (by rw [h]; exact he), h]
theorem encode_large {d : DataD} (h : checkE d = 0) (hl : 4194304 < (encA d).length) : encodeE d = ([], 40) := by unfold encodeE; rw [if_pos h, if_neg (by omega)]
theorem encode_yes {d : DataD} (h : checkE d = 0) (hl : (encA d).length ≤ 4194304) : encodeE d = (encA d, 0) := by unfold encodeE; rw [if_pos h, if_pos hl]
set_option maxHeartbeats 4000000 in
theorem encode_any (W0 : World) (d : DataD) (vr vi : Value) (hd : DataIn anyB W0 d vr vi) (w : World) (hB : Below W0.heap.size W0 w) (hf : d.few) (hW : Words w) (hO : Ops w) :
    Calls Tryz.prog 11 #[.agg #[vr, vi]] w fun e w' => e = .returned (.tuple #[.string ⟨(encodeE d).1.toArray⟩, .int .i64 (encodeE d).2]) ∧ Below w.heap.size w w' := by
  have hdw : DataIn anyB w d vr vi := hd.keep hB.size fun b _ h => ⟨hB.block b h, trivial⟩
  obtain ⟨ar, cr, rfl⟩ := hd.repos.form
  obtain ⟨ai, ci, rfl⟩ := hd.inst.form
  obtain ⟨g, hg⟩ : ∃ g, g = w.heap.size := ⟨_, rfl⟩
  obtain ⟨w1, hw1⟩ : ∃ w1, w1 = w.alloc (.cells #[.slice ar d.repos.length cr, .slice ai d.inst.length ci] 41) := ⟨_, rfl⟩
  have b1 : Below w.heap.size w w1 := by rw [hw1]; exact new_b _ _
  have k1 : Blk w1 g 41 #[.slice ar d.repos.length cr, .slice ai d.inst.length ci] := by rw [hw1, hg]; exact Blk.new _ _ _
  have HSt := Lib.hid (show Below w.heap.size w w1 ∧ Blk w1 g 41 #[.slice ar d.repos.length cr, .slice ai d.inst.length ci] from ⟨b1, k1⟩)
  have HC := Lib.hid (check_any W0 d _ _ hd w1 (hB.trans (b1.mono hB.size)) hf (hW.below b1) (hO.below b1))
  have HDw := Lib.hid hdw
  have d0 : w1.cell? ⟨g, 0, none⟩ = some (.slice ar d.repos.length cr) := k1.cell 0
  have d1 : w1.cell? ⟨g, 1, none⟩ = some (.slice ai d.inst.length ci) := k1.cell 1
  have dl : g < w1.heap.size := k1.lt
  obtain ⟨ce, hce⟩ : ∃ ce, ce = checkE d := ⟨_, rfl⟩
  rw [← hce] at HC
  have HCE := Lib.hid hce
  obtain ⟨T, hT⟩ : ∃ T, T = encodeE d := ⟨_, rfl⟩
  rw [← hT]
  have HT := Lib.hid hT
  clear hd hdw hB hf hW hO b1 k1 hce hT
  by_cases h0 : ce = 0
  · have HOk := Lib.hid (show checkE d = 0 by rw [← HCE.out]; exact h0)
    subst h0
    go_enter Tryz.func11, Tryz.ntmps11
    go_upto_region 1 with fail
    rw [← hw1, ← hg]
    have HG := Lib.hid hg
    clear hw1 hg
    go_upto_region 4 with (first
      | (go_at_call 15; (with_reducible refine HC.out.mono ?_); rintro e w2 ⟨rfl, hb2⟩; have HS2 := Lib.hid (show Below w.heap.size w w2 ∧ Blk w2 g 41 #[.slice ar d.repos.length cr, .slice ai d.inst.length ci] from ⟨below_t' HSt.out.1 hb2, HSt.out.2.below hb2 HSt.out.2.lt⟩); clear hb2)
      | fail)
    clear d0 d1 dl HSt HC
    have HNw := Lib.hid (new_any w2)
    go_upto_region 5 with (first
      | (go_at_call 27; (with_reducible refine HNw.out.mono ?_); rintro e w3 ⟨rfl, hi3, hb3⟩; have HS3 := Lib.hid (show (Below w.heap.size w w3 ∧ Blk w3 g 41 #[.slice ar d.repos.length cr, .slice ai d.inst.length ci]) ∧ IsW w3 w2.heap.size (.slice none 0 0) [] from ⟨⟨below_t' HS2.out.1 hb3, HS2.out.2.below hb3 HS2.out.2.lt⟩, hi3⟩); clear hi3 hb3)
      | fail)
    obtain ⟨gw, hgw⟩ : ∃ gw, gw = w2.heap.size := ⟨_, rfl⟩
    obtain ⟨gc, hgc⟩ : ∃ gc, gc = w3.heap.size := ⟨_, rfl⟩
    obtain ⟨w4, hw4⟩ : ∃ w4, w4 = w3.alloc (.cells #[.pointer (some ⟨gw, 0, none⟩), .int .i64 0] 68) := ⟨_, rfl⟩
    have b4 : Below w3.heap.size w3 w4 := by rw [hw4]; exact new_b _ _
    have k4 : Blk w4 gc 68 #[.pointer (some ⟨gw, 0, none⟩), .int .i64 0] := by rw [hw4, hgc]; exact Blk.new _ _ _
    have HW4 := Lib.hid (show WrSt w gc gw (.slice none 0 0) ([], 0) w4 from ⟨below_t' HS3.out.1.1 b4, k4, by rw [hgw]; exact HS3.out.2.below b4, by rw [hgc]; exact HS3.out.1.1.size, by rw [hgw]; exact HS2.out.1.size, fun k h => by simp [Value.ownBlock] at h⟩)
    have hk4 : Blk w4 g 41 #[.slice ar d.repos.length cr, .slice ai d.inst.length ci] := HS3.out.1.2.below b4 HS3.out.1.2.lt
    have HD4 := Lib.hid hk4
    have e0 : w4.cell? ⟨g, 0, none⟩ = some (.slice ar d.repos.length cr) := hk4.cell 0
    obtain ⟨q1, q2, q3, q4, q5⟩ := check_ok.1 HOk.out
    have HP1 := Lib.hid (putOs w gc gw d.repos _ HDw.out.repos q3 q4 (.slice none 0 0) ([], 0) w4 HW4.out)
    have HP2 := Lib.hid (fun v st w' h => putPs w gc gw d.inst _ HDw.out.inst q5 v st w' h)
    rw [← hgw, ← hgc, ← hw4]
    clear hgw hgc hw4 b4 k4 hk4 q1 q2 q3 q4 q5 HNw HS3 HS2
    go_wp2_with fail
    refine HP1.out.mono ?_
    rintro e w5 ⟨rfl, v5, st5, hs5, hr5, hc5⟩
    have hx5 := HW4.out.far hc5 HD4.out (by decide) (by decide) (by decide)
    have c1 : w5.cell? ⟨g, 1, none⟩ = some (.slice ai d.inst.length ci) := hx5.cell 1
    have HN5 := Lib.hid (HP2.out v5 st5 w5 hs5)
    have HR5 := Lib.hid hr5
    clear hs5 hr5 hc5 hx5 HP1 HW4 HD4 e0 HP2
    go_wp2_with fail
    refine HN5.out.mono ?_
    rintro e w6 ⟨rfl, v6, st6, hs6, hr6, hc6⟩
    have HR6 := Lib.hid (show WrRel ([], 0) (encA d) st6 from HR5.out.trans hr6)
    have HS6 := Lib.hid hs6
    have c1' : w6.cell? ⟨gc, 1, none⟩ = some (.int .i64 st6.2) := hs6.wb.cell 1
    have c0' : w6.cell? ⟨gc, 0, none⟩ = some (.pointer (some ⟨gw, 0, none⟩)) := hs6.wb.cell 0
    have cl' : gc < w6.heap.size := hs6.wb.lt
    have HBy := Lib.hid (bytes_any gw v6 st6.1 w6 hs6.isw)
    clear hs6 hr6 hc6 HN5 HR5 c1
    by_cases hl : (encA d).length ≤ 4194304
    · have he := HR6.out.fits rfl (by simpa using hl)
      obtain ⟨sb, se⟩ := st6
      simp only [List.nil_append, Prod.mk.injEq] at he
      obtain ⟨rfl, rfl⟩ := he
      have HTT := Lib.hid (HT.out.trans (encode_yes HOk.out hl))
      go_wp2_with (first
        | (go_at_call 32; (with_reducible refine HBy.out.mono ?_); rintro e w7 ⟨rfl, rfl⟩)
        | fail)
      go_ret2
      exact ⟨by rw [HTT.out]; rfl, HS6.out.bl⟩
    · have he := HR6.out.not rfl (by simp; omega)
      obtain ⟨sb, se⟩ := st6
      obtain rfl : se = 40 := he
      have HTT := Lib.hid (HT.out.trans (encode_large HOk.out (by omega)))
      clear hl
      go_wp2_with fail
      go_quiet (fail)
      go_wp2_with fail
      go_ret2
      exact ⟨by rw [HTT.out]; rfl, bel_drewN HS6.out.bl _⟩
  · have hd0 : (ce == 0) = false := by simpa using h0
    have hd1 : (ce != 0) = true := by simp [bne, hd0]
    have HTT := Lib.hid (HT.out.trans (encode_bad HCE.out.symm h0))
    clear h0
    go_enter Tryz.func11, Tryz.ntmps11
    go_upto_region 1 with fail
    rw [← hw1, ← hg]
    have HG := Lib.hid hg
    clear hw1 hg
    go_wp2_with (first
      | (go_at_call 15; (with_reducible refine HC.out.mono ?_); rintro e w2 ⟨rfl, hb2⟩; have HB2 := Lib.hid (below_t' HSt.out.1 hb2); clear hb2)
      | fail)
    go_ret2
    exact ⟨by rw [HTT.out]; rfl, HB2.out⟩
end Go.Proofs.YtdpjjnbelgaagaaGreatDoor

namespace Go.Proofs.YtdpjjnbelgaagaaGreatDoor
open Go.ChangeShapes Go.WideShapes Go.ChangeAt Go.RowKit Go.Deep
set_option maxRecDepth 100000

section
variable {s : ByteArray} {a q : Nat}
theorem num_hi {lo hi : Int} {n : Nat} (h : pNum lo hi s a = .ok (n, q)) : lo ≤ (n : Int) ∧ (n : Int) ≤ hi := by
  unfold pNum at h
  split at h
  · next n' k hr =>
    injection h with h
    injection h with e1 _
    subst e1
    by_cases hs : a ≤ s.size
    · obtain ⟨_, _, _, _, a5, a6⟩ := rdN_in s a lo hi 9 0 0 n' k rfl (by simp) hr
      exact ⟨a5, a6⟩
    · obtain ⟨_, _, _, _, a5, a6⟩ := rdN_in s a lo hi 9 0 0 n' k rfl (by simp) hr
      exact ⟨a5, a6⟩
  · cases h
theorem rep_all {α : Type} {p : Rdr α} {Q : α → Prop} (hp : ∀ a x q, p s a = .ok (x, q) → Q x) : ∀ (n a q : Nat) (l : List α), pRep p n s a = .ok (l, q) → l.length = n ∧ ∀ x ∈ l, Q x
  | 0, a, q, l, h => by
    injection h with h
    injection h with e1 _
    subst e1
    exact ⟨rfl, fun x h => by cases h⟩
  | n + 1, a, q, l, h => by
    obtain ⟨x, r1, h1, h2⟩ := bind_ok.1 h
    obtain ⟨l2, r2, h3, h4⟩ := bind_ok.1 h2
    injection h4 with h4
    injection h4 with e1 _
    subst e1
    obtain ⟨k1, k2⟩ := rep_all hp n r1 r2 l2 h3
    refine ⟨by rw [List.length_cons, k1], fun y hy => ?_⟩
    rcases List.mem_cons.1 hy with rfl | hy
    · exact hp _ _ _ h1
    · exact k2 y hy
theorem many_all {α : Type} {p : Rdr α} {Q : α → Prop} {lo hi : Int} (hp : ∀ a x q, p s a = .ok (x, q) → Q x) {l : List α} (h : pMany lo hi p s a = .ok (l, q)) : lo ≤ (l.length : Int) ∧ (l.length : Int) ≤ hi ∧ ∀ x ∈ l, Q x := by
  obtain ⟨n, r1, h1, h2⟩ := bind_ok.1 h
  obtain ⟨h3, h4⟩ := num_hi h1
  obtain ⟨h5, h6⟩ := rep_all hp n r1 q l h2
  subst h5
  exact ⟨h3, h4, h6⟩
theorem sumN_le {f : Nat → Nat} {c : Nat} : ∀ n, (∀ j, j < n → f j ≤ c) → sumN f n ≤ n * c
  | 0, _ => by simp [sumN]
  | n + 1, h => by
    have h1 := sumN_le n fun j hj => h j (by omega)
    have h2 := h n (by omega)
    show sumN f n + f n ≤ (n + 1) * c
    rw [Nat.add_mul]
    omega
theorem count_ofL {k : Int} {l : List RichD} {c n : Nat} (hl : l.length ≤ n) (hc : ∀ x ∈ l, x.count ≤ c) : (ofL k l).count ≤ 1 + n * c := by
  show 1 + sumN (fun j => (l.getD j .nil).count) l.length ≤ _
  have h1 := sumN_le (f := fun j => (l.getD j .nil).count) (c := c) l.length fun j hj => by
    have : l.getD j .nil = l[j] := by simp [List.getD, hj]
    show (l.getD j .nil).count ≤ c
    rw [this]
    exact hc _ (List.getElem_mem _)
  have h2 : l.length * c ≤ n * c := Nat.mul_le_mul_right _ hl
  omega
theorem rich_count : ∀ (m : Nat) (a : Nat) (x : RichD) (q : Nat), pRich m s a = .ok (x, q) → x.count ≤ 25 ^ (m + 1)
  | 0, a, x, q, h => by
    obtain ⟨k, r1, h1, h2⟩ := bind_ok.1 h
    split at h2
    · obtain ⟨d, r2, h3, h4⟩ := bind_ok.1 h2
      injection h4 with h4
      injection h4 with e1 _
      subst e1
      show 1 + 0 ≤ 25 ^ 1
      decide
    · cases h2
  | m + 1, a, x, q, h => by
    obtain ⟨k, r1, h1, h2⟩ := bind_ok.1 h
    have hp : 1 ≤ 25 ^ (m + 1) := Nat.one_le_pow _ _ (by decide)
    split at h2
    · obtain ⟨d, r2, h3, h4⟩ := bind_ok.1 h2
      injection h4 with h4
      injection h4 with e1 _
      subst e1
      show 1 + 0 ≤ 25 ^ (m + 1) * 25
      omega
    · obtain ⟨l, r2, h3, h4⟩ := bind_ok.1 h2
      injection h4 with h4
      injection h4 with e1 _
      subst e1
      obtain ⟨_, h6, h7⟩ := many_all (Q := fun x => x.count ≤ 25 ^ (m + 1)) (fun a x q => rich_count m a x q) h3
      have := count_ofL (k := k) (n := 24) (by omega) h7
      show _ ≤ 25 ^ (m + 1) * 25
      omega
theorem riches_few {x : RichD} (h : pRiches s a = .ok (x, q)) : ∀ y ∈ argL x, y.count ≤ 4611686018427387904 := by
  obtain ⟨l, r2, h3, h4⟩ := bind_ok.1 h
  injection h4 with h4
  injection h4 with e1 _
  subst e1
  rw [argL_ofL]
  obtain ⟨_, _, h7⟩ := many_all (Q := fun x => x.count ≤ 25 ^ 9) (fun a x q => rich_count 8 a x q) h3
  exact fun y hy => Nat.le_trans (h7 y hy) (by decide)
theorem body_few {p : PkgD} (h : pBody s a = .ok (p, q)) : p.few := by
  obtain ⟨_, _, _, h⟩ := bind_ok.1 h
  obtain ⟨_, _, _, h⟩ := bind_ok.1 h
  obtain ⟨_, _, _, h⟩ := bind_ok.1 h
  obtain ⟨_, _, _, h⟩ := bind_ok.1 h
  obtain ⟨_, _, _, h⟩ := bind_ok.1 h
  obtain ⟨x1, _, f1, h⟩ := bind_ok.1 h
  obtain ⟨x2, _, f2, h⟩ := bind_ok.1 h
  obtain ⟨_, _, _, h⟩ := bind_ok.1 h
  obtain ⟨x3, _, f3, h⟩ := bind_ok.1 h
  obtain ⟨x4, _, f4, h⟩ := bind_ok.1 h
  obtain ⟨x5, _, f5, h⟩ := bind_ok.1 h
  obtain ⟨x6, _, f6, h⟩ := bind_ok.1 h
  obtain ⟨_, _, _, h⟩ := bind_ok.1 h
  injection h with h
  injection h with e1 _
  subst e1
  intro r hr
  rcases hr with rfl | rfl | rfl | rfl | rfl | rfl
  · exact riches_few f1
  · exact riches_few f2
  · exact riches_few f3
  · exact riches_few f4
  · exact riches_few f5
  · exact riches_few f6
end
end Go.Proofs.YtdpjjnbelgaagaaGreatDoor

namespace Go.Proofs.YtdpjjnbelgaagaaGreatDoor
open Go.ChangeShapes Go.WideShapes Go.ChangeAt Go.RowKit Go.Deep
set_option maxRecDepth 100000

/-- A package's cells are filled. -/
def fin15 (W : World) (b : Nat) (p : PkgD) (r : PkgR) : World :=
  ((((((((((((((W.setCell ⟨b, 0, none⟩ (.string p.name)).setCell ⟨b, 1, none⟩ (.int .i64 p.ep)).setCell ⟨b, 2, none⟩ (.string p.ver)).setCell ⟨b, 3, none⟩ (.string p.rel)).setCell ⟨b, 4, none⟩ (.int .u8 p.arch)).setCell ⟨b, 5, none⟩ (.string p.vendor)).setCell ⟨b, 6, none⟩ (r.prov)).setCell ⟨b, 7, none⟩ (r.req)).setCell ⟨b, 8, none⟩ (r.con)).setCell ⟨b, 9, none⟩ (r.obs)).setCell ⟨b, 10, none⟩ (r.reco)).setCell ⟨b, 11, none⟩ (r.sup)).setCell ⟨b, 12, none⟩ (r.sug)).setCell ⟨b, 13, none⟩ (r.enh)).setCell ⟨b, 14, none⟩ (r.files)
theorem fin15_far (W : World) (b : Nat) (p : PkgD) (r : PkgR) (k : Nat) (hk : k ≠ b) : (fin15 W b p r).heap[k]? = W.heap[k]? := by
  unfold fin15
  have h := fun (W : World) (i : Nat) (u : Value) => Below.heap_setCell W ⟨b, i, none⟩ u k hk
  rw [h, h, h, h, h, h, h, h, h, h, h, h, h, h, h]
theorem fin15_size (W : World) (b : Nat) (p : PkgD) (r : PkgR) : (fin15 W b p r).heap.size = W.heap.size := by
  unfold fin15
  simp
theorem fin15_blk {W : World} {b : Nat} (h : Blk W b 29 zeroPk) (p : PkgD) (r : PkgR) : Blk (fin15 W b p r) b 29 (pkA p r) :=
  by
  have st : ∀ (W : World) (cs : Array Value) (i : Nat) (v : Value), Blk W b 29 cs → Blk (W.setCell ⟨b, i, none⟩ v) b 29 (cs.setIfInBounds i v) := fun _ _ _ _ h => h.set_ _ _
  exact st _ #[.string p.name, .int .i64 p.ep, .string p.ver, .string p.rel, .int .u8 p.arch, .string p.vendor, r.prov, r.req, r.con, r.obs, r.reco, r.sup, r.sug, r.enh, .slice none 0 0] 14 (r.files) (st _ #[.string p.name, .int .i64 p.ep, .string p.ver, .string p.rel, .int .u8 p.arch, .string p.vendor, r.prov, r.req, r.con, r.obs, r.reco, r.sup, r.sug, .slice none 0 0, .slice none 0 0] 13 (r.enh) (st _ #[.string p.name, .int .i64 p.ep, .string p.ver, .string p.rel, .int .u8 p.arch, .string p.vendor, r.prov, r.req, r.con, r.obs, r.reco, r.sup, .slice none 0 0, .slice none 0 0, .slice none 0 0] 12 (r.sug) (st _ #[.string p.name, .int .i64 p.ep, .string p.ver, .string p.rel, .int .u8 p.arch, .string p.vendor, r.prov, r.req, r.con, r.obs, r.reco, .slice none 0 0, .slice none 0 0, .slice none 0 0, .slice none 0 0] 11 (r.sup) (st _ #[.string p.name, .int .i64 p.ep, .string p.ver, .string p.rel, .int .u8 p.arch, .string p.vendor, r.prov, r.req, r.con, r.obs, .slice none 0 0, .slice none 0 0, .slice none 0 0, .slice none 0 0, .slice none 0 0] 10 (r.reco) (st _ #[.string p.name, .int .i64 p.ep, .string p.ver, .string p.rel, .int .u8 p.arch, .string p.vendor, r.prov, r.req, r.con, .slice none 0 0, .slice none 0 0, .slice none 0 0, .slice none 0 0, .slice none 0 0, .slice none 0 0] 9 (r.obs) (st _ #[.string p.name, .int .i64 p.ep, .string p.ver, .string p.rel, .int .u8 p.arch, .string p.vendor, r.prov, r.req, .slice none 0 0, .slice none 0 0, .slice none 0 0, .slice none 0 0, .slice none 0 0, .slice none 0 0, .slice none 0 0] 8 (r.con) (st _ #[.string p.name, .int .i64 p.ep, .string p.ver, .string p.rel, .int .u8 p.arch, .string p.vendor, r.prov, .slice none 0 0, .slice none 0 0, .slice none 0 0, .slice none 0 0, .slice none 0 0, .slice none 0 0, .slice none 0 0, .slice none 0 0] 7 (r.req) (st _ #[.string p.name, .int .i64 p.ep, .string p.ver, .string p.rel, .int .u8 p.arch, .string p.vendor, .slice none 0 0, .slice none 0 0, .slice none 0 0, .slice none 0 0, .slice none 0 0, .slice none 0 0, .slice none 0 0, .slice none 0 0, .slice none 0 0] 6 (r.prov) (st _ #[.string p.name, .int .i64 p.ep, .string p.ver, .string p.rel, .int .u8 p.arch, .string ⟨#[]⟩, .slice none 0 0, .slice none 0 0, .slice none 0 0, .slice none 0 0, .slice none 0 0, .slice none 0 0, .slice none 0 0, .slice none 0 0, .slice none 0 0] 5 (.string p.vendor) (st _ #[.string p.name, .int .i64 p.ep, .string p.ver, .string p.rel, .int .u8 0, .string ⟨#[]⟩, .slice none 0 0, .slice none 0 0, .slice none 0 0, .slice none 0 0, .slice none 0 0, .slice none 0 0, .slice none 0 0, .slice none 0 0, .slice none 0 0] 4 (.int .u8 p.arch) (st _ #[.string p.name, .int .i64 p.ep, .string p.ver, .string ⟨#[]⟩, .int .u8 0, .string ⟨#[]⟩, .slice none 0 0, .slice none 0 0, .slice none 0 0, .slice none 0 0, .slice none 0 0, .slice none 0 0, .slice none 0 0, .slice none 0 0, .slice none 0 0] 3 (.string p.rel) (st _ #[.string p.name, .int .i64 p.ep, .string ⟨#[]⟩, .string ⟨#[]⟩, .int .u8 0, .string ⟨#[]⟩, .slice none 0 0, .slice none 0 0, .slice none 0 0, .slice none 0 0, .slice none 0 0, .slice none 0 0, .slice none 0 0, .slice none 0 0, .slice none 0 0] 2 (.string p.ver) (st _ #[.string p.name, .int .i64 0, .string ⟨#[]⟩, .string ⟨#[]⟩, .int .u8 0, .string ⟨#[]⟩, .slice none 0 0, .slice none 0 0, .slice none 0 0, .slice none 0 0, .slice none 0 0, .slice none 0 0, .slice none 0 0, .slice none 0 0, .slice none 0 0] 1 (.int .i64 p.ep) (st _ #[.string ⟨#[]⟩, .int .i64 0, .string ⟨#[]⟩, .string ⟨#[]⟩, .int .u8 0, .string ⟨#[]⟩, .slice none 0 0, .slice none 0 0, .slice none 0 0, .slice none 0 0, .slice none 0 0, .slice none 0 0, .slice none 0 0, .slice none 0 0, .slice none 0 0] 0 (.string p.name) h))))))))))))))
section
variable {w : World} {b bx n0 : Nat} {p p' : PkgD} {r r' : PkgR} {g gr : Nat} {s : ByteArray} {left : Int} {a a' : Nat} {e e' : Int} {W W' : World} {B : World → Nat → Prop}
theorem RSt.fin15 (h : RSt g gr s left a e W) (h1 : b ≠ g) (h2 : b ≠ gr) : RSt g gr s left a e (fin15 W b p r) := by
  unfold Go.Proofs.YtdpjjnbelgaagaaGreatDoor.fin15
  have k : ∀ (i : Nat) (u : Value) (W : World), RSt g gr s left a e W → RSt g gr s left a e (W.setCell ⟨b, i, none⟩ u) := fun i u W h => h.set (p := ⟨b, i, none⟩) h1 h2 u
  exact k _ _ _ (k _ _ _ (k _ _ _ (k _ _ _ (k _ _ _ (k _ _ _ (k _ _ _ (k _ _ _ (k _ _ _ (k _ _ _ (k _ _ _ (k _ _ _ (k _ _ _ (k _ _ _ (k _ _ _ h))))))))))))))
theorem touch_fin15 {F : Nat → Prop} (h : Touch F w W) (hb : w.heap.size ≤ b) : Touch F w (fin15 W b p r) := by
  unfold fin15
  have k : ∀ (i : Nat) (u : Value) (W : World), Touch F w W → Touch F w (W.setCell ⟨b, i, none⟩ u) := fun i u W h => touch_set (p := ⟨b, i, none⟩) h hb u
  exact k _ _ _ (k _ _ _ (k _ _ _ (k _ _ _ (k _ _ _ (k _ _ _ (k _ _ _ (k _ _ _ (k _ _ _ (k _ _ _ (k _ _ _ (k _ _ _ (k _ _ _ (k _ _ _ (k _ _ _ h))))))))))))))
theorem PkgIn.far {y : PkgD} {q : PkgR} (h : PkgIn (free n0) W p r) (hb : b < n0) : PkgIn (free n0) (Go.Proofs.YtdpjjnbelgaagaaGreatDoor.fin15 W b y q) p r := by
  obtain ⟨U, hU⟩ : ∃ U, U = Go.Proofs.YtdpjjnbelgaagaaGreatDoor.fin15 W b y q := ⟨_, rfl⟩
  have hs : U.heap.size = W.heap.size := by rw [hU]; exact fin15_size _ _ _ _
  have hf : ∀ k, k ≠ b → U.heap[k]? = W.heap[k]? := by rw [hU]; exact fin15_far _ _ _ _
  rw [← hU]
  exact h.keep (by omega) fun k ⟨k1, k2⟩ _ => ⟨hf k (by omega), k1, fun i => (World.frozen?_of_block (w := W) (hf k (by omega))).trans (k2 i)⟩
theorem PkgIn.prov_ {x : List DepD} {v : Value} (h : PkgIn B W p r) (hl : LIn depK B W x v) : PkgIn B W { p with prov := x } { r with prov := v } := ⟨h.s1, h.s2, h.s3, h.s4, h.ar, h.ep, hl, h.req, h.con, h.obs, h.reco, h.sup, h.sug, h.enh, h.files⟩
theorem PkgIn.req_ {x : RichD} {v : Value} (h : PkgIn B W p r) (hl : LIn richK B W (argL x) v) : PkgIn B W { p with req := x } { r with req := v } := ⟨h.s1, h.s2, h.s3, h.s4, h.ar, h.ep, h.prov, hl, h.con, h.obs, h.reco, h.sup, h.sug, h.enh, h.files⟩
theorem PkgIn.con_ {x : RichD} {v : Value} (h : PkgIn B W p r) (hl : LIn richK B W (argL x) v) : PkgIn B W { p with con := x } { r with con := v } := ⟨h.s1, h.s2, h.s3, h.s4, h.ar, h.ep, h.prov, h.req, hl, h.obs, h.reco, h.sup, h.sug, h.enh, h.files⟩
theorem PkgIn.obs_ {x : List DepD} {v : Value} (h : PkgIn B W p r) (hl : LIn depK B W x v) : PkgIn B W { p with obs := x } { r with obs := v } := ⟨h.s1, h.s2, h.s3, h.s4, h.ar, h.ep, h.prov, h.req, h.con, hl, h.reco, h.sup, h.sug, h.enh, h.files⟩
theorem PkgIn.reco_ {x : RichD} {v : Value} (h : PkgIn B W p r) (hl : LIn richK B W (argL x) v) : PkgIn B W { p with reco := x } { r with reco := v } := ⟨h.s1, h.s2, h.s3, h.s4, h.ar, h.ep, h.prov, h.req, h.con, h.obs, hl, h.sup, h.sug, h.enh, h.files⟩
theorem PkgIn.sup_ {x : RichD} {v : Value} (h : PkgIn B W p r) (hl : LIn richK B W (argL x) v) : PkgIn B W { p with sup := x } { r with sup := v } := ⟨h.s1, h.s2, h.s3, h.s4, h.ar, h.ep, h.prov, h.req, h.con, h.obs, h.reco, hl, h.sug, h.enh, h.files⟩
theorem PkgIn.sug_ {x : RichD} {v : Value} (h : PkgIn B W p r) (hl : LIn richK B W (argL x) v) : PkgIn B W { p with sug := x } { r with sug := v } := ⟨h.s1, h.s2, h.s3, h.s4, h.ar, h.ep, h.prov, h.req, h.con, h.obs, h.reco, h.sup, hl, h.enh, h.files⟩
theorem PkgIn.enh_ {x : RichD} {v : Value} (h : PkgIn B W p r) (hl : LIn richK B W (argL x) v) : PkgIn B W { p with enh := x } { r with enh := v } := ⟨h.s1, h.s2, h.s3, h.s4, h.ar, h.ep, h.prov, h.req, h.con, h.obs, h.reco, h.sup, h.sug, hl, h.files⟩
theorem PkgIn.files_ {x : List ByteArray} {v : Value} (h : PkgIn B W p r) (hl : LIn strK B W x v) : PkgIn B W { p with files := x } { r with files := v } := ⟨h.s1, h.s2, h.s3, h.s4, h.ar, h.ep, h.prov, h.req, h.con, h.obs, h.reco, h.sup, h.sug, h.enh, hl⟩
/-- The reader's pkg's own blocks. -/
structure PkSt (w : World) (b bx n0 : Nat) (p : PkgD) (r : PkgR) (g gr : Nat) (s : ByteArray) (left : Int) (a : Nat) (e : Int) (W : World) : Prop where
  rs : RSt g gr s left a e W
  rz : Blk W b 29 zeroPk
  rx : Blk W bx 29 (pkA p r)
  inn : PkgIn (free n0) W p r
  tt : Touch (RF g gr) w W
  lo : w.heap.size ≤ b ∧ w.heap.size ≤ bx ∧ b < n0 ∧ bx < n0 ∧ n0 ≤ W.heap.size ∧ g < n0 ∧ gr < n0
  nb : b ≠ bx
theorem PkSt.call (h : PkSt w b bx n0 p r g gr s left a e W) (hr : RSt g gr s left a' e' W') (ht : Touch (RF g gr) W W') : PkSt w b bx n0 p r g gr s left a' e' W' := by
  have hl := h.lo
  have hz := ht.size
  refine ⟨hr, h.rs.far ht h.rz (by decide) (by decide), h.rs.far ht h.rx (by decide) (by decide), h.inn.keep hz fun k ⟨k1, k2⟩ k3 => ?_, h.tt.trans ht fun _ _ h => h, ⟨hl.1, hl.2.1, hl.2.2.1, hl.2.2.2.1, by omega, hl.2.2.2.2.2⟩, h.nb⟩
  have hb := ht.block k k3 (by rintro (e | e) <;> omega)
  exact ⟨hb, k1, fun i => (World.frozen?_of_block (w := W) hb).trans (k2 i)⟩
theorem PkSt.below (h : PkSt w b bx n0 p r g gr s left a e W) (hb : Below W.heap.size W W') : PkSt w b bx n0 p r g gr s left a e W' := h.call (h.rs.below hb) (Touch.of_below hb _)
theorem PkSt.drewN (h : PkSt w b bx n0 p r g gr s left a e W) (n : Nat) : PkSt w b bx n0 p r g gr s left a e (W.drewN n) := h.call (h.rs.drewN n) ((Touch.refl _ _).drewN n)
theorem PkSt.ne (h : PkSt w b bx n0 p r g gr s left a e W) : (b ≠ g ∧ b ≠ gr) ∧ bx ≠ g ∧ bx ≠ gr :=
  ⟨⟨h.rz.ne_ h.rs.rb (by decide), h.rz.ne_ h.rs.wr (by decide)⟩, h.rx.ne_ h.rs.rb (by decide), h.rx.ne_ h.rs.wr (by decide)⟩
theorem PkSt.put (h : PkSt w b bx n0 p r g gr s left a e W) (i : Nat) (v : Value) (he : pkA p' r' = (pkA p r).setIfInBounds i v) (hin : PkgIn (free n0) W p' r') : PkSt w b bx n0 p' r' g gr s left a e (W.setCell ⟨bx, i, none⟩ v) := by
  have hl := h.lo
  obtain ⟨_, h3, h4⟩ := h.ne
  refine ⟨h.rs.set (p := ⟨bx, i, none⟩) h3 h4 v, h.rz.far h.nb v, he ▸ h.rx.set_ i v, hin.keep (by simp) fun k ⟨k1, k2⟩ k3 => ?_, touch_set (p := ⟨bx, i, none⟩) h.tt hl.2.1 v, ⟨hl.1, hl.2.1, hl.2.2.1, hl.2.2.2.1, by simp only [World.size_setCell]; exact hl.2.2.2.2.1, hl.2.2.2.2.2⟩, h.nb⟩
  have hb : (W.setCell ⟨bx, i, none⟩ v).heap[k]? = W.heap[k]? := Below.heap_setCell _ _ _ _ (by show k ≠ bx; omega)
  exact ⟨hb, k1, fun i => (World.frozen?_of_block (w := W) hb).trans (k2 i)⟩
theorem PkSt.done (h : PkSt w b bx n0 p r g gr s left a e W) : Blk (Go.Proofs.YtdpjjnbelgaagaaGreatDoor.fin15 W b p r) b 29 (pkA p r) ∧ PkgIn (free w.heap.size) (Go.Proofs.YtdpjjnbelgaagaaGreatDoor.fin15 W b p r) p r ∧ RSt g gr s left a e (Go.Proofs.YtdpjjnbelgaagaaGreatDoor.fin15 W b p r) ∧ Touch (RF g gr) w (Go.Proofs.YtdpjjnbelgaagaaGreatDoor.fin15 W b p r) :=
  ⟨fin15_blk h.rz p r, (h.inn.far h.lo.2.2.1).keep (Nat.le_refl _) fun k ⟨k1, k2⟩ _ => ⟨rfl, by have := h.lo; omega, k2⟩, h.rs.fin15 h.ne.1.1 h.ne.1.2, touch_fin15 h.tt h.lo.1⟩
end
theorem zero_in (n0 : Nat) (W : World) {nm : ByteArray} (h : nm.size ≤ 64) : PkgIn (free n0) W ⟨nm, 0, emp, emp, 0, emp, [], (ofL 0 []), (ofL 0 []), [], (ofL 0 []), (ofL 0 []), (ofL 0 []), (ofL 0 []), []⟩ ⟨(.slice none 0 0), (.slice none 0 0), (.slice none 0 0), (.slice none 0 0), (.slice none 0 0), (.slice none 0 0), (.slice none 0 0), (.slice none 0 0), (.slice none 0 0)⟩ := by
  have hr : LIn richK (free n0) W (argL (ofL 0 [])) (.slice none 0 0) := by rw [argL_ofL]; exact LIn.nil _ _ _
  have hd : LIn depK (free n0) W [] (.slice none 0 0) := LIn.nil _ _ _
  have hf : LIn strK (free n0) W [] (.slice none 0 0) := LIn.nil _ _ _
  exact ⟨show nm.size ≤ 9223372036854775807 by omega, (by show emp.size ≤ 9223372036854775807; decide), (by show emp.size ≤ 9223372036854775807; decide), (by show emp.size ≤ 9223372036854775807; decide), (by show (0 : Int) ≤ 0 ∧ (0 : Int) < 256; decide), (by show (-9223372036854775808 : Int) ≤ 0 ∧ (0 : Int) ≤ 9223372036854775807; decide), hd, hr, hr, hd, hr, hr, hr, hr, hf⟩
end Go.Proofs.YtdpjjnbelgaagaaGreatDoor
