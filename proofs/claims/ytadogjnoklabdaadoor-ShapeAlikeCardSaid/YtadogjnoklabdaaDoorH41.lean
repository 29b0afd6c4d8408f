/- ShapeAlike: its walk. Conditions: as each theorem names them. -/
import Derived.Test.YtadogjnoklabdaaDoorH40
namespace Go.Proofs.YtadogjnoklabdaaDoor
open Go.ChangeShapes Go.WideShapes Go.ChangeAt Go.RowKit Go.Deep
set_option maxRecDepth 100000

/-- wpAnyH_take, where the operation's slot is written out. -/
theorem take_at {P : Program} {md : Region.Mode} {ops : Array Oper} {Q : Exit → Act → World → Prop} {S : World → Prop} {i : Nat} {oi : Oper} {d : Option Tmp} {v : Value} {fuel : Nat} {listed : Array Bool} {a : Act} {w : World} (hi : ops[i]? = some oi) (hd : oi.dst = d)
    (hs : Region.noSelect ops = true) (hf : Region.free md ops listed i = true) (hr : (Region.ready md ops listed).contains i = true)
    (hQ : ∀ c a w, Q (.panic c) (a.put oi.dst v) w → Q (.panic c) a w) (hy : YieldsIf P ops S oi v a) (hS : S w)
    (h : wpAnyH P md ops Q S fuel (listed.setIfInBounds i true) (a.put d v) w) : wpAnyH P md ops Q S (fuel + 1) listed a w :=
  wpAnyH_take hi hs hf hr hQ hy hS (hd ▸ h)
theorem JSt.touch {w Ww W : World} {g : Nat} {a b : RichD} {sa sb : Value} {F : Nat → Prop} (h : JSt w g a b sa sb Ww) (t : Touch F Ww W) (hF : ∀ k, F k → g + 1 < k) (hg : w.heap.size ≤ g) : JSt w g a b sa sb W :=
  ⟨h.bl.trans (t.below h.bl.size (fun k hk f => by have := hF k f; omega)), h.ra.same (t.block g h.ra.lt (fun f => by have := hF g f; omega)) t.size, h.rb.same (t.block (g + 1) h.rb.lt (fun f => by have := hF _ f; omega)) t.size⟩
theorem kind_next {k : Int} (_ : 0 ≤ k) (_ : k < 256) : ¬ k = (k + 1) % 256 := by omega

set_option maxHeartbeats 8000000 in
theorem alike_any (a b : RichD) (sa sb : Value) (w : World) (ha : IsArgs w a sa) (hb : IsArgs w b sb) (wh : Int) (hwh : 0 ≤ wh ∧ wh < 256) (hW : Words w) (hO : Ops w) :
    Calls Tryd.prog 6 #[a.val sa, b.val sb, .int .u8 wh] w fun e w' => e = .returned (.bool true) ∧ Below w.heap.size w w' := by
  obtain ⟨xa, ca, rfl⟩ := ha.form
  obtain ⟨xb, cb, rfl⟩ := hb.form
  obtain ⟨g, hg⟩ : ∃ g, g = w.heap.size := ⟨_, rfl⟩
  obtain ⟨w1, hw1⟩ : ∃ w1, w1 = (w.alloc (richObj a (.slice xa a.n ca))).alloc (richObj b (.slice xb b.n cb)) := ⟨_, rfl⟩
  have HSt := Lib.hid (show JSt w g a b (.slice xa a.n ca) (.slice xb b.n cb) w1 from by rw [hw1, hg]; exact JSt.new _ _ _ _ _)
  have HWk := Lib.hid (fun (W : World) (h : JSt w g a b (.slice xa a.n ca) (.slice xb b.n cb) W) => works_any W (hW.below h.bl) (hO.below h.bl))
  have HLa := Lib.hid (fun (W : World) (h : JSt w g a b (.slice xa a.n ca) (.slice xb b.n cb) W) => large_any a _ W (ha.kept h.bl))
  have HLb := Lib.hid (fun (W : World) (h : JSt w g a b (.slice xa a.n ca) (.slice xb b.n cb) W) => large_any b _ W (hb.kept h.bl))
  obtain ⟨d0, d1, d2, d3, d4, d5, d6, e0, e1, e2, e3, e4, e5, e6⟩ := HSt.out.cells
  by_cases hl : 600 ≤ a.count ∨ 600 ≤ b.count
  · have hd : decide (600 ≤ a.count) = true ∨ (decide (600 ≤ a.count) = false ∧ decide (600 ≤ b.count) = true) := by
      rcases Nat.lt_or_ge a.count 600 with h | h
      · exact .inr ⟨decide_eq_false (by omega), decide_eq_true (by omega)⟩
      · exact .inl (decide_eq_true h)
    clear ha hb hW hO hl
    rcases hd with hd | ⟨hd, hd2⟩
    · rw [hd] at HLa
      unfold RichD.val richV
      go_enter Tryd.func6, Tryd.ntmps6
      go_upto_region 1 with fail
      rw [← hw1, ← hg]
      clear hw1 hg
      go_wp2_with (first
        | (go_at_call 9; (with_reducible refine (HWk.out _ HSt.out).mono ?_); rintro e wx ⟨rfl, HBc⟩; have HSt := Lib.hid (HSt.out.below HBc); clear HBc; obtain ⟨d0, d1, d2, d3, d4, d5, d6, e0, e1, e2, e3, e4, e5, e6⟩ := HSt.out.cells)
        | (go_at_call 10; (with_reducible refine (HLa.out _ HSt.out).mono ?_); rintro e wx ⟨rfl, HBc⟩; have HSt := Lib.hid (HSt.out.below HBc); clear HBc)
        | fail)
      go_ret
      exact ⟨rfl, HSt.out.bl⟩
    · rw [hd] at HLa
      rw [hd2] at HLb
      unfold RichD.val richV
      go_enter Tryd.func6, Tryd.ntmps6
      go_upto_region 1 with fail
      rw [← hw1, ← hg]
      clear hw1 hg
      go_wp2_with (first
        | (go_at_call 9; (with_reducible refine (HWk.out _ HSt.out).mono ?_); rintro e wx ⟨rfl, HBc⟩; have HSt := Lib.hid (HSt.out.below HBc); clear HBc; obtain ⟨d0, d1, d2, d3, d4, d5, d6, e0, e1, e2, e3, e4, e5, e6⟩ := HSt.out.cells)
        | (go_at_call 10; (with_reducible refine (HLa.out _ HSt.out).mono ?_); rintro e wx ⟨rfl, HBc⟩; have HSt := Lib.hid (HSt.out.below HBc); clear HBc; obtain ⟨d0, d1, d2, d3, d4, d5, d6, e0, e1, e2, e3, e4, e5, e6⟩ := HSt.out.cells)
        | (go_at_call 10; (with_reducible refine (HLb.out _ HSt.out).mono ?_); rintro e wx ⟨rfl, HBc⟩; have HSt := Lib.hid (HSt.out.below HBc); clear HBc)
        | fail)
      go_ret
      exact ⟨rfl, HSt.out.bl⟩
  · have hda : decide (600 ≤ a.count) = false := decide_eq_false (by omega)
    have hdb : decide (600 ≤ b.count) = false := decide_eq_false (by omega)
    rw [hda] at HLa
    rw [hdb] at HLb
    have hca : a.count ≤ 600 := by omega
    have hca2 : a.count ≤ 4611686018427387904 := by omega
    have hcb2 : b.count ≤ 4611686018427387904 := by omega
    have hn9 := ha.bound
    have hfit := IsArgs.node_n ha
    have HKn := Lib.hid (kind_next hfit.2.1 hfit.2.2)
    have HCp := Lib.hid (fun (W : World) (h : JSt w g a b (.slice xa a.n ca) (.slice xb b.n cb) W) => copy_any w a _ W ha h.bl hca)
    have HCr := Lib.hid (fun (W : World) (h : JSt w g a b (.slice xa a.n ca) (.slice xb b.n cb) W) => rcopy_any w a _ W ha h.bl hca)
    have HMa := Lib.hid (fun (W : World) (h : JSt w g a b (.slice xa a.n ca) (.slice xb b.n cb) W) (m : Int) (hm : m = mayE a wh) => show Calls Tryd.prog 11 #[a.val (.slice xa a.n ca), .int .u8 wh] W fun e w' => e = .returned (.int .i64 m) ∧ Below W.heap.size W w' from by
      rw [hm]; exact may_any w a _ ha W h.bl hca2 wh hwh (hW.below h.bl) (hO.below h.bl))
    have HMb := Lib.hid (fun (W : World) (h : JSt w g a b (.slice xa a.n ca) (.slice xb b.n cb) W) (m : Int) (hm : m = mayE b wh) => show Calls Tryd.prog 11 #[b.val (.slice xb b.n cb), .int .u8 wh] W fun e w' => e = .returned (.int .i64 m) ∧ Below W.heap.size W w' from by
      rw [hm]; exact may_any w b _ hb W h.bl hcb2 wh hwh (hW.below h.bl) (hO.below h.bl))
    have HMc := Lib.hid (show ∀ q ac cc, (∀ W, TSt w g a b (.slice xa a.n ca) (.slice xb b.n cb) q (.slice ac a.n cc) W → ∀ (m : Int), m = mayE a wh → Calls Tryd.prog 11 #[a.val (.slice ac a.n cc), .int .u8 wh] W fun e w' => e = .returned (.int .i64 m) ∧ Below W.heap.size W w') from fun q ac cc W h m hm => by
      rw [hm]; exact may_any W a _ h.ia W (Below.refl _ _) hca2 wh hwh (hW.below h.st.bl) (hO.below h.st.bl))
    have HSc := Lib.hid (show ∀ q ac cc, (∀ W, TSt w g a b (.slice xa a.n ca) (.slice xb b.n cb) q (.slice ac a.n cc) W → Calls Tryd.prog 18 #[a.val (.slice xa a.n ca), a.val (.slice ac a.n cc)] W fun e w' => e = .returned (.bool true) ∧ Below W.heap.size W w') from fun q ac cc W h => by
      have := same_any W a _ a _ W (ha.kept h.st.bl) h.ia (Below.refl _ _)
      rw [same_refl] at this
      exact this)
    have HSab := Lib.hid (fun (W : World) (h : JSt w g a b (.slice xa a.n ca) (.slice xb b.n cb) W) (v : Bool) (hv : v = sameE a b) => show Calls Tryd.prog 18 #[a.val (.slice xa a.n ca), b.val (.slice xb b.n cb)] W fun e w' => e = .returned (.bool v) ∧ Below W.heap.size W w' from by
      rw [hv]; exact same_any w a _ b _ W ha hb h.bl)
    have HSba := Lib.hid (fun (W : World) (h : JSt w g a b (.slice xa a.n ca) (.slice xb b.n cb) W) (v : Bool) (hv : v = sameE a b) => show Calls Tryd.prog 18 #[b.val (.slice xb b.n cb), a.val (.slice xa a.n ca)] W fun e w' => e = .returned (.bool v) ∧ Below W.heap.size W w' from by
      rw [hv, same_comm]; exact same_any w b _ a _ W hb ha h.bl)
    have HRs := Lib.hid (fun (W : World) (h : JSt w g a b (.slice xa a.n ca) (.slice xb b.n cb) W) (sw : Value) (hw : IsArgs W a sw) => show Calls Tryd.prog 20 #[a.val sw, a.val (.slice xa a.n ca)] W fun e w' => e = .returned (.bool true) ∧ Below W.heap.size W w' from by
      have := rsame_any W a _ a _ W hw (ha.kept h.bl) (Below.refl _ _)
      rw [same_refl] at this
      exact this)
    clear ha hb hW hO hl hca hca2 hcb2 hda hdb hwh hfit
    obtain ⟨vv, hvv⟩ : ∃ n, n = sameE a b := ⟨_, rfl⟩
    obtain ⟨m, hm⟩ : ∃ m, m = mayE a wh := ⟨_, rfl⟩
    obtain ⟨m2, hm2⟩ : ∃ m, m = mayE b wh := ⟨_, rfl⟩
    have KMM := Lib.hid (show vv = true → m2 = m from fun h => by rw [hm, hm2]; exact (same_may (hvv ▸ h) wh).symm)
    have KM := Lib.hid hm
    have KM2 := Lib.hid hm2
    have KV := Lib.hid hvv
    have HWg := Lib.hid (show w.heap.size ≤ g by omega)
    clear hm hm2 hvv
    unfold RichD.val richV
    go_enter Tryd.func6, Tryd.ntmps6
    go_upto_region 1 with fail
    rw [← hw1, ← hg]
    clear hw1 hg
    go_upto_region 4 with (first
      | (go_at_call 9; (with_reducible refine (HWk.out _ HSt.out).mono ?_); rintro e wx ⟨rfl, HBc⟩; have HSt := Lib.hid (HSt.out.below HBc); clear HBc; obtain ⟨d0, d1, d2, d3, d4, d5, d6, e0, e1, e2, e3, e4, e5, e6⟩ := HSt.out.cells)
      | (go_at_call 10; (with_reducible refine (HLa.out _ HSt.out).mono ?_); rintro e wx ⟨rfl, HBc⟩; have HSt := Lib.hid (HSt.out.below HBc); clear HBc; obtain ⟨d0, d1, d2, d3, d4, d5, d6, e0, e1, e2, e3, e4, e5, e6⟩ := HSt.out.cells)
      | (go_at_call 10; (with_reducible refine (HLb.out _ HSt.out).mono ?_); rintro e wx ⟨rfl, HBc⟩; have HSt := Lib.hid (HSt.out.below HBc); clear HBc; obtain ⟨d0, d1, d2, d3, d4, d5, d6, e0, e1, e2, e3, e4, e5, e6⟩ := HSt.out.cells)
      | (go_at_call 17; (with_reducible refine (HCp.out _ HSt.out).mono ?_); rintro e wk ⟨sc, rfl, hNc, HBc⟩; obtain ⟨ac, cc, rfl⟩ := hNc.form; have HN1 := Lib.hid (show g + 1 < wx.heap.size from HSt.out.rb.lt); have HN2 := Lib.hid HBc.size; have HS2t := Lib.hid (HSt.out.below HBc); have HNc := Lib.hid hNc; clear HBc hNc)
      | fail)
    obtain ⟨n1, hn1⟩ : ∃ n1, n1 = wx.heap.size := ⟨_, rfl⟩
    rw [← hn1] at HN1 HN2 HNc
    obtain ⟨q, hq⟩ : ∃ q, q = wk.heap.size := ⟨_, rfl⟩
    obtain ⟨w3, hw3⟩ : ∃ w3, w3 = wk.alloc (richObj a (.slice ac a.n cc)) := ⟨_, rfl⟩
    have HB3 := Lib.hid (show Below wk.heap.size wk w3 from by rw [hw3]; exact new_b _ _)
    have HSt := Lib.hid (show TSt w g a b (.slice xa a.n ca) (.slice xb b.n cb) q (.slice ac a.n cc) w3.drew ∧ Below w3.heap.size w3 w3.drew from ⟨TSt.drew ⟨by rw [hw3]; exact HS2t.out.alloc _, by rw [hw3, hq]; exact RichB.new _ _ _, by rw [hw3]; exact HNc.out.in_.is.kept (new_b _ _)⟩, (Below.refl _ w3).drew⟩)
    have HQ := Lib.hid hq
    rw [← hq, ← hw3]
    clear hw3 hq hn1 HLa HLb HWk HCp d0 d1 d2 d3 d4 d5 d6 e0 e1 e2 e3 e4 e5 e6
    have HCells := Lib.hid (show ∀ w', TSt w g a b (.slice xa a.n ca) (.slice xb b.n cb) q (.slice ac a.n cc) w' → (w'.cell? ⟨g, 0, none⟩ = some (.int .u8 a.kind) ∧ w'.cell? ⟨g, 1, none⟩ = some (.string a.dep.name) ∧ w'.cell? ⟨g, 2, none⟩ = some (.int .u8 a.dep.op) ∧ w'.cell? ⟨g, 3, none⟩ = some (.int .i64 a.dep.ep) ∧ w'.cell? ⟨g, 4, none⟩ = some (.string a.dep.ver) ∧ w'.cell? ⟨g, 5, none⟩ = some (.string a.dep.rel) ∧ w'.cell? ⟨g, 6, none⟩ = some (.slice xa a.n ca) ∧ w'.cell? ⟨g + 1, 0, none⟩ = some (.int .u8 b.kind) ∧ w'.cell? ⟨g + 1, 1, none⟩ = some (.string b.dep.name) ∧ w'.cell? ⟨g + 1, 2, none⟩ = some (.int .u8 b.dep.op) ∧ w'.cell? ⟨g + 1, 3, none⟩ = some (.int .i64 b.dep.ep) ∧ w'.cell? ⟨g + 1, 4, none⟩ = some (.string b.dep.ver) ∧ w'.cell? ⟨g + 1, 5, none⟩ = some (.string b.dep.rel) ∧ w'.cell? ⟨g + 1, 6, none⟩ = some (.slice xb b.n cb) ∧ w'.cell? ⟨q, 0, none⟩ = some (.int .u8 a.kind) ∧ w'.cell? ⟨q, 1, none⟩ = some (.string a.dep.name) ∧ w'.cell? ⟨q, 2, none⟩ = some (.int .u8 a.dep.op) ∧ w'.cell? ⟨q, 3, none⟩ = some (.int .i64 a.dep.ep) ∧ w'.cell? ⟨q, 4, none⟩ = some (.string a.dep.ver) ∧ w'.cell? ⟨q, 5, none⟩ = some (.string a.dep.rel) ∧ w'.cell? ⟨q, 6, none⟩ = some (.slice ac a.n cc)) from fun w' h => by
      obtain ⟨d0, d1, d2, d3, d4, d5, d6, e0, e1, e2, e3, e4, e5, e6⟩ := h.st.cells
      exact ⟨d0, d1, d2, d3, d4, d5, d6, e0, e1, e2, e3, e4, e5, e6, h.wb.cell 0, h.wb.cell 1, h.wb.cell 2, h.wb.cell 3, h.wb.cell 4, h.wb.cell 5, h.wb.cell 6⟩)
    -- BEHIND THE LONG QUESTION: THE SECOND COPY, AND WHAT IS DONE TO THE FIRST
    go_cut [58] from 23 (fun x wy => x = .bool false ∧ Hid (TSt w g a b (.slice xa a.n ca) (.slice xb b.n cb) q (.slice ac a.n cc) wy ∧ Below w3.heap.size w3 wy))
    case first =>
      cases vv with
      | true =>
        have KMb := Lib.hid (show m = mayE b wh from (KMM.out rfl).symm.trans KM2.out)
        clear KMM KM2
        go_region_held3 (fun w' => w'.cell? ⟨g, 0, none⟩ = some (.int .u8 a.kind) ∧ w'.cell? ⟨g, 1, none⟩ = some (.string a.dep.name) ∧ w'.cell? ⟨g, 2, none⟩ = some (.int .u8 a.dep.op) ∧ w'.cell? ⟨g, 3, none⟩ = some (.int .i64 a.dep.ep) ∧ w'.cell? ⟨g, 4, none⟩ = some (.string a.dep.ver) ∧ w'.cell? ⟨g, 5, none⟩ = some (.string a.dep.rel) ∧ w'.cell? ⟨g, 6, none⟩ = some (.slice xa a.n ca) ∧ w'.cell? ⟨g + 1, 0, none⟩ = some (.int .u8 b.kind) ∧ w'.cell? ⟨g + 1, 1, none⟩ = some (.string b.dep.name) ∧ w'.cell? ⟨g + 1, 2, none⟩ = some (.int .u8 b.dep.op) ∧ w'.cell? ⟨g + 1, 3, none⟩ = some (.int .i64 b.dep.ep) ∧ w'.cell? ⟨g + 1, 4, none⟩ = some (.string b.dep.ver) ∧ w'.cell? ⟨g + 1, 5, none⟩ = some (.string b.dep.rel) ∧ w'.cell? ⟨g + 1, 6, none⟩ = some (.slice xb b.n cb) ∧ w'.cell? ⟨q, 0, none⟩ = some (.int .u8 a.kind) ∧ w'.cell? ⟨q, 1, none⟩ = some (.string a.dep.name) ∧ w'.cell? ⟨q, 2, none⟩ = some (.int .u8 a.dep.op) ∧ w'.cell? ⟨q, 3, none⟩ = some (.int .i64 a.dep.ep) ∧ w'.cell? ⟨q, 4, none⟩ = some (.string a.dep.ver) ∧ w'.cell? ⟨q, 5, none⟩ = some (.string a.dep.rel) ∧ w'.cell? ⟨q, 6, none⟩ = some (.slice ac a.n cc)) (exact HCells.out _ HSt.out.1)
          ((first
            | (go_at_call 18; (with_reducible refine (HSc.out q ac cc _ HSt.out.1 ).mono ?_); rintro e wx ⟨rfl, HBc⟩; have HSt := Lib.hid (show TSt w g a b (.slice xa a.n ca) (.slice xb b.n cb) q (.slice ac a.n cc) wx ∧ Below w3.heap.size w3 wx from ⟨HSt.out.1.below HBc, below_t' HSt.out.2 HBc⟩); clear HBc)
            | (go_at_call 11; (with_reducible refine (HMc.out q ac cc _ HSt.out.1 m KM.out).mono ?_); rintro e wx ⟨rfl, HBc⟩; have HSt := Lib.hid (show TSt w g a b (.slice xa a.n ca) (.slice xb b.n cb) q (.slice ac a.n cc) wx ∧ Below w3.heap.size w3 wx from ⟨HSt.out.1.below HBc, below_t' HSt.out.2 HBc⟩); clear HBc)
            | (go_at_call 11; (with_reducible refine (HMa.out _ HSt.out.1.st m KM.out).mono ?_); rintro e wx ⟨rfl, HBc⟩; have HSt := Lib.hid (show TSt w g a b (.slice xa a.n ca) (.slice xb b.n cb) q (.slice ac a.n cc) wx ∧ Below w3.heap.size w3 wx from ⟨HSt.out.1.below HBc, below_t' HSt.out.2 HBc⟩); clear HBc)
            | (go_at_call 11; (with_reducible refine (HMb.out _ HSt.out.1.st m KMb.out).mono ?_); rintro e wx ⟨rfl, HBc⟩; have HSt := Lib.hid (show TSt w g a b (.slice xa a.n ca) (.slice xb b.n cb) q (.slice ac a.n cc) wx ∧ Below w3.heap.size w3 wx from ⟨HSt.out.1.below HBc, below_t' HSt.out.2 HBc⟩); clear HBc)
            | (go_at_call 18; (with_reducible refine (HSab.out _ HSt.out.1.st true KV.out).mono ?_); rintro e wx ⟨rfl, HBc⟩; have HSt := Lib.hid (show TSt w g a b (.slice xa a.n ca) (.slice xb b.n cb) q (.slice ac a.n cc) wx ∧ Below w3.heap.size w3 wx from ⟨HSt.out.1.below HBc, below_t' HSt.out.2 HBc⟩); clear HBc)
            | (go_at_call 18; (with_reducible refine (HSba.out _ HSt.out.1.st true KV.out).mono ?_); rintro e wx ⟨rfl, HBc⟩; have HSt := Lib.hid (show TSt w g a b (.slice xa a.n ca) (.slice xb b.n cb) q (.slice ac a.n cc) wx ∧ Below w3.heap.size w3 wx from ⟨HSt.out.1.below HBc, below_t' HSt.out.2 HBc⟩); clear HBc)
            ))
        all_goals
          go_wp2_with fail
          go_meet
          case rel => exact ⟨rfl, HSt⟩
      | false =>
        clear KMM KM2 HMb
        refine wp_region_held_drew (S := (fun w' => w'.cell? ⟨g, 0, none⟩ = some (.int .u8 a.kind) ∧ w'.cell? ⟨g, 1, none⟩ = some (.string a.dep.name) ∧ w'.cell? ⟨g, 2, none⟩ = some (.int .u8 a.dep.op) ∧ w'.cell? ⟨g, 3, none⟩ = some (.int .i64 a.dep.ep) ∧ w'.cell? ⟨g, 4, none⟩ = some (.string a.dep.ver) ∧ w'.cell? ⟨g, 5, none⟩ = some (.string a.dep.rel) ∧ w'.cell? ⟨g, 6, none⟩ = some (.slice xa a.n ca) ∧ w'.cell? ⟨g + 1, 0, none⟩ = some (.int .u8 b.kind) ∧ w'.cell? ⟨g + 1, 1, none⟩ = some (.string b.dep.name) ∧ w'.cell? ⟨g + 1, 2, none⟩ = some (.int .u8 b.dep.op) ∧ w'.cell? ⟨g + 1, 3, none⟩ = some (.int .i64 b.dep.ep) ∧ w'.cell? ⟨g + 1, 4, none⟩ = some (.string b.dep.ver) ∧ w'.cell? ⟨g + 1, 5, none⟩ = some (.string b.dep.rel) ∧ w'.cell? ⟨g + 1, 6, none⟩ = some (.slice xb b.n cb) ∧ w'.cell? ⟨q, 0, none⟩ = some (.int .u8 a.kind) ∧ w'.cell? ⟨q, 1, none⟩ = some (.string a.dep.name) ∧ w'.cell? ⟨q, 2, none⟩ = some (.int .u8 a.dep.op) ∧ w'.cell? ⟨q, 3, none⟩ = some (.int .i64 a.dep.ep) ∧ w'.cell? ⟨q, 4, none⟩ = some (.string a.dep.ver) ∧ w'.cell? ⟨q, 5, none⟩ = some (.string a.dep.rel) ∧ w'.cell? ⟨q, 6, none⟩ = some (.slice ac a.n cc))) (by kernel_rfl) (HCells.out _ HSt.out.1) (fun hHeld => ?_)
        refine take_at (i := 0) (d := some 23) (v := ?v0) rfl rfl (by kernel_rfl) (by kernel_rfl) (by kernel_rfl) (fun _ _ _ h => h) (Or.inl ⟨by rfl, ?y0⟩) hHeld ?r0
        case y0 => (intro w hSw; (try dsimp only at hSw); go_simp <;> with_reducible rfl)
        (try simp only [Act.put, List.setIfInBounds_toArray, List.set_cons_zero, List.set_cons_succ])
        refine take_at (i := 1) (d := some 24) (v := ?v1) rfl rfl (by kernel_rfl) (by kernel_rfl) (by kernel_rfl) (fun _ _ _ h => h) (Or.inl ⟨by rfl, ?y1⟩) hHeld ?r1
        case y1 => (intro w hSw; (try dsimp only at hSw); go_simp <;> with_reducible rfl)
        (try simp only [Act.put, List.setIfInBounds_toArray, List.set_cons_zero, List.set_cons_succ])
        refine wpAnyH_ready (rs := [2]) (by kernel_rfl) (by simp) ?_
        refine AllReadyH.cons rfl (fun K hK => ?_) AllReadyH.nil
        go_simp
        ((go_at_call 18; (with_reducible refine (HSc.out q ac cc _ HSt.out.1 ).mono ?_); rintro e wx ⟨rfl, HBc⟩; have HSt := Lib.hid (show TSt w g a b (.slice xa a.n ca) (.slice xb b.n cb) q (.slice ac a.n cc) wx ∧ Below w3.heap.size w3 wx from ⟨HSt.out.1.below HBc, below_t' HSt.out.2 HBc⟩); clear HBc))
        refine hK.out _ _ (HCells.out _ HSt.out.1) (fun hHeld => ?_)
        clear hK K
        (try simp only [Act.put, List.setIfInBounds_toArray, List.set_cons_zero, List.set_cons_succ])
        refine take_at (i := 3) (d := some 26) (v := ?v3) rfl rfl (by kernel_rfl) (by kernel_rfl) (by kernel_rfl) (fun _ _ _ h => h) (Or.inl ⟨by rfl, ?y3⟩) hHeld ?r3
        case y3 => (intro w hSw; (try dsimp only at hSw); go_simp <;> with_reducible rfl)
        (try simp only [Act.put, List.setIfInBounds_toArray, List.set_cons_zero, List.set_cons_succ])
        refine take_at (i := 4) (d := some 27) (v := ?v4) rfl rfl (by kernel_rfl) (by kernel_rfl) (by kernel_rfl) (fun _ _ _ h => h) (Or.inl ⟨by rfl, ?y4⟩) hHeld ?r4
        case y4 => (intro w hSw; (try dsimp only at hSw); go_simp <;> with_reducible rfl)
        (try simp only [Act.put, List.setIfInBounds_toArray, List.set_cons_zero, List.set_cons_succ])
        refine take_at (i := 5) (d := some 28) (v := ?v5) rfl rfl (by kernel_rfl) (by kernel_rfl) (by kernel_rfl) (fun _ _ _ h => h) (Or.inl ⟨by rfl, ?y5⟩) hHeld ?r5
        case y5 => (intro w hSw; (try dsimp only at hSw); go_simp <;> with_reducible rfl)
        (try simp only [Act.put, List.setIfInBounds_toArray, List.set_cons_zero, List.set_cons_succ])
        refine take_at (i := 6) (d := some 29) (v := ?v6) rfl rfl (by kernel_rfl) (by kernel_rfl) (by kernel_rfl) (fun _ _ _ h => h) (Or.inl ⟨by rfl, ?y6⟩) hHeld ?r6
        case y6 => (intro w hSw; (try dsimp only at hSw); go_simp <;> with_reducible rfl)
        (try simp only [Act.put, List.setIfInBounds_toArray, List.set_cons_zero, List.set_cons_succ])
        refine take_at (i := 8) (d := some 31) (v := ?v8) rfl rfl (by kernel_rfl) (by kernel_rfl) (by kernel_rfl) (fun _ _ _ h => h) (Or.inl ⟨by rfl, ?y8⟩) hHeld ?r8
        case y8 => (intro w hSw; (try dsimp only at hSw); go_simp <;> with_reducible rfl)
        (try simp only [Act.put, List.setIfInBounds_toArray, List.set_cons_zero, List.set_cons_succ])
        refine take_at (i := 9) (d := some 32) (v := ?v9) rfl rfl (by kernel_rfl) (by kernel_rfl) (by kernel_rfl) (fun _ _ _ h => h) (Or.inl ⟨by rfl, ?y9⟩) hHeld ?r9
        case y9 => (intro w hSw; (try dsimp only at hSw); go_simp <;> with_reducible rfl)
        (try simp only [Act.put, List.setIfInBounds_toArray, List.set_cons_zero, List.set_cons_succ])
        refine wpAnyH_ready (rs := [7]) (by kernel_rfl) (by simp) ?_
        refine AllReadyH.cons rfl (fun K hK => ?_) AllReadyH.nil
        go_simp
        ((go_at_call 11; (with_reducible refine (HMc.out q ac cc _ HSt.out.1 m KM.out).mono ?_); rintro e wx ⟨rfl, HBc⟩; have HSt := Lib.hid (show TSt w g a b (.slice xa a.n ca) (.slice xb b.n cb) q (.slice ac a.n cc) wx ∧ Below w3.heap.size w3 wx from ⟨HSt.out.1.below HBc, below_t' HSt.out.2 HBc⟩); clear HBc))
        refine hK.out _ _ (HCells.out _ HSt.out.1) (fun hHeld => ?_)
        clear hK K
        (try simp only [Act.put, List.setIfInBounds_toArray, List.set_cons_zero, List.set_cons_succ])
        refine wpAnyH_ready (rs := [10]) (by kernel_rfl) (by simp) ?_
        refine AllReadyH.cons rfl (fun K hK => ?_) AllReadyH.nil
        go_simp
        ((go_at_call 11; (with_reducible refine (HMa.out _ HSt.out.1.st m KM.out).mono ?_); rintro e wx ⟨rfl, HBc⟩; have HSt := Lib.hid (show TSt w g a b (.slice xa a.n ca) (.slice xb b.n cb) q (.slice ac a.n cc) wx ∧ Below w3.heap.size w3 wx from ⟨HSt.out.1.below HBc, below_t' HSt.out.2 HBc⟩); clear HBc))
        refine hK.out _ _ (HCells.out _ HSt.out.1) (fun hHeld => ?_)
        clear hK K
        (try simp only [Act.put, List.setIfInBounds_toArray, List.set_cons_zero, List.set_cons_succ])
        refine take_at (i := 11) (d := some 34) (v := ?v11) rfl rfl (by kernel_rfl) (by kernel_rfl) (by kernel_rfl) (fun _ _ _ h => h) (Or.inl ⟨by rfl, ?y11⟩) hHeld ?r11
        case y11 => (intro w hSw; (try dsimp only at hSw); go_simp <;> with_reducible rfl)
        (try simp only [Act.put, List.setIfInBounds_toArray, List.set_cons_zero, List.set_cons_succ])
        refine take_at (i := 12) (d := some 35) (v := ?v12) rfl rfl (by kernel_rfl) (by kernel_rfl) (by kernel_rfl) (fun _ _ _ h => h) (Or.inl ⟨by rfl, ?y12⟩) hHeld ?r12
        case y12 => (intro w hSw; (try dsimp only at hSw); go_simp <;> with_reducible rfl)
        (try simp only [Act.put, List.setIfInBounds_toArray, List.set_cons_zero, List.set_cons_succ])
        refine take_at (i := 13) (d := some 36) (v := ?v13) rfl rfl (by kernel_rfl) (by kernel_rfl) (by kernel_rfl) (fun _ _ _ h => h) (Or.inl ⟨by rfl, ?y13⟩) hHeld ?r13
        case y13 => (intro w hSw; (try dsimp only at hSw); go_simp <;> with_reducible rfl)
        (try simp only [Act.put, List.setIfInBounds_toArray, List.set_cons_zero, List.set_cons_succ])
        refine take_at (i := 14) (d := some 37) (v := ?v14) rfl rfl (by kernel_rfl) (by kernel_rfl) (by kernel_rfl) (fun _ _ _ h => h) (Or.inl ⟨by rfl, ?y14⟩) hHeld ?r14
        case y14 => (intro w hSw; (try dsimp only at hSw); go_simp <;> with_reducible rfl)
        (try simp only [Act.put, List.setIfInBounds_toArray, List.set_cons_zero, List.set_cons_succ])
        refine take_at (i := 15) (d := some 38) (v := ?v15) rfl rfl (by kernel_rfl) (by kernel_rfl) (by kernel_rfl) (fun _ _ _ h => h) (Or.inl ⟨by rfl, ?y15⟩) hHeld ?r15
        case y15 => (intro w hSw; (try dsimp only at hSw); go_simp <;> with_reducible rfl)
        (try simp only [Act.put, List.setIfInBounds_toArray, List.set_cons_zero, List.set_cons_succ])
        refine take_at (i := 17) (d := some 40) (v := ?v17) rfl rfl (by kernel_rfl) (by kernel_rfl) (by kernel_rfl) (fun _ _ _ h => h) (Or.inl ⟨by rfl, ?y17⟩) hHeld ?r17
        case y17 => (intro w hSw; (try dsimp only at hSw); go_simp <;> with_reducible rfl)
        (try simp only [Act.put, List.setIfInBounds_toArray, List.set_cons_zero, List.set_cons_succ])
        refine take_at (i := 18) (d := some 41) (v := ?v18) rfl rfl (by kernel_rfl) (by kernel_rfl) (by kernel_rfl) (fun _ _ _ h => h) (Or.inl ⟨by rfl, ?y18⟩) hHeld ?r18
        case y18 => (intro w hSw; (try dsimp only at hSw); go_simp <;> with_reducible rfl)
        (try simp only [Act.put, List.setIfInBounds_toArray, List.set_cons_zero, List.set_cons_succ])
        refine wpAnyH_ready (rs := [16]) (by kernel_rfl) (by simp) ?_
        refine AllReadyH.cons rfl (fun K hK => ?_) AllReadyH.nil
        go_simp
        ((go_at_call 18; (with_reducible refine (HSab.out _ HSt.out.1.st false KV.out).mono ?_); rintro e wx ⟨rfl, HBc⟩; have HSt := Lib.hid (show TSt w g a b (.slice xa a.n ca) (.slice xb b.n cb) q (.slice ac a.n cc) wx ∧ Below w3.heap.size w3 wx from ⟨HSt.out.1.below HBc, below_t' HSt.out.2 HBc⟩); clear HBc))
        refine hK.out _ _ (HCells.out _ HSt.out.1) (fun hHeld => ?_)
        clear hK K
        (try simp only [Act.put, List.setIfInBounds_toArray, List.set_cons_zero, List.set_cons_succ])
        refine wpAnyH_ready (rs := [19]) (by kernel_rfl) (by simp) ?_
        refine AllReadyH.cons rfl (fun K hK => ?_) AllReadyH.nil
        go_simp
        ((go_at_call 18; (with_reducible refine (HSba.out _ HSt.out.1.st false KV.out).mono ?_); rintro e wx ⟨rfl, HBc⟩; have HSt := Lib.hid (show TSt w g a b (.slice xa a.n ca) (.slice xb b.n cb) q (.slice ac a.n cc) wx ∧ Below w3.heap.size w3 wx from ⟨HSt.out.1.below HBc, below_t' HSt.out.2 HBc⟩); clear HBc))
        refine hK.out _ _ (HCells.out _ HSt.out.1) (fun hHeld => ?_)
        clear hK K
        (try simp only [Act.put, List.setIfInBounds_toArray, List.set_cons_zero, List.set_cons_succ])
        refine take_at (i := 20) (d := some 43) (v := ?v20) rfl rfl (by kernel_rfl) (by kernel_rfl) (by kernel_rfl) (fun _ _ _ h => h) (Or.inl ⟨by rfl, ?y20⟩) hHeld ?r20
        case y20 => (intro w hSw; (try dsimp only at hSw); go_simp <;> with_reducible rfl)
        (try simp only [Act.put, List.setIfInBounds_toArray, List.set_cons_zero, List.set_cons_succ])
        refine take_at (i := 21) (d := some 44) (v := ?v21) rfl rfl (by kernel_rfl) (by kernel_rfl) (by kernel_rfl) (fun _ _ _ h => h) (Or.inl ⟨by rfl, ?y21⟩) hHeld ?r21
        case y21 => (intro w hSw; (try dsimp only at hSw); go_simp <;> with_reducible rfl)
        (try simp only [Act.put, List.setIfInBounds_toArray, List.set_cons_zero, List.set_cons_succ])
        refine take_at (i := 22) (d := some 45) (v := ?v22) rfl rfl (by kernel_rfl) (by kernel_rfl) (by kernel_rfl) (fun _ _ _ h => h) (Or.inl ⟨by rfl, ?y22⟩) hHeld ?r22
        case y22 => (intro w hSw; (try dsimp only at hSw); go_simp <;> with_reducible rfl)
        (try simp only [Act.put, List.setIfInBounds_toArray, List.set_cons_zero, List.set_cons_succ])
        refine take_at (i := 23) (d := some 46) (v := ?v23) rfl rfl (by kernel_rfl) (by kernel_rfl) (by kernel_rfl) (fun _ _ _ h => h) (Or.inl ⟨by rfl, ?y23⟩) hHeld ?r23
        case y23 => (intro w hSw; (try dsimp only at hSw); go_simp <;> with_reducible rfl)
        (try simp only [Act.put, List.setIfInBounds_toArray, List.set_cons_zero, List.set_cons_succ])
        refine take_at (i := 24) (d := some 47) (v := ?v24) rfl rfl (by kernel_rfl) (by kernel_rfl) (by kernel_rfl) (fun _ _ _ h => h) (Or.inl ⟨by rfl, ?y24⟩) hHeld ?r24
        case y24 => (intro w hSw; (try dsimp only at hSw); go_simp <;> with_reducible rfl)
        (try simp only [Act.put, List.setIfInBounds_toArray, List.set_cons_zero, List.set_cons_succ])
        refine wpAnyH_ready (rs := [25]) (by kernel_rfl) (by simp) ?_
        refine AllReadyH.cons rfl (fun K hK => ?_) AllReadyH.nil
        go_simp
        ((go_at_call 18; (with_reducible refine (HSab.out _ HSt.out.1.st false KV.out).mono ?_); rintro e wx ⟨rfl, HBc⟩; have HSt := Lib.hid (show TSt w g a b (.slice xa a.n ca) (.slice xb b.n cb) q (.slice ac a.n cc) wx ∧ Below w3.heap.size w3 wx from ⟨HSt.out.1.below HBc, below_t' HSt.out.2 HBc⟩); clear HBc))
        refine hK.out _ _ (HCells.out _ HSt.out.1) (fun hHeld => ?_)
        clear hK K
        (try simp only [Act.put, List.setIfInBounds_toArray, List.set_cons_zero, List.set_cons_succ])
        refine take_at (i := 26) (d := some 49) (v := ?v26) rfl rfl (by kernel_rfl) (by kernel_rfl) (by kernel_rfl) (fun _ _ _ h => h) (Or.inl ⟨by rfl, ?y26⟩) hHeld ?r26
        case y26 => (intro w hSw; (try dsimp only at hSw); go_simp <;> with_reducible rfl)
        (try simp only [Act.put, List.setIfInBounds_toArray, List.set_cons_zero, List.set_cons_succ])
        refine take_at (i := 27) (d := some 50) rfl rfl (by kernel_rfl) (by kernel_rfl) (by kernel_rfl) (fun _ _ _ h => h) (Or.inr ⟨by rfl, rfl⟩) hHeld ?_
        (try simp only [Act.put, List.setIfInBounds_toArray, List.set_cons_zero, List.set_cons_succ])
        refine take_at (i := 28) (d := some 51) rfl rfl (by kernel_rfl) (by kernel_rfl) (by kernel_rfl) (fun _ _ _ h => h) (Or.inr ⟨by rfl, rfl⟩) hHeld ?_
        (try simp only [Act.put, List.setIfInBounds_toArray, List.set_cons_zero, List.set_cons_succ])
        refine take_at (i := 29) (d := some 52) rfl rfl (by kernel_rfl) (by kernel_rfl) (by kernel_rfl) (fun _ _ _ h => h) (Or.inr ⟨by rfl, rfl⟩) hHeld ?_
        (try simp only [Act.put, List.setIfInBounds_toArray, List.set_cons_zero, List.set_cons_succ])
        refine take_at (i := 30) (d := some 53) rfl rfl (by kernel_rfl) (by kernel_rfl) (by kernel_rfl) (fun _ _ _ h => h) (Or.inr ⟨by rfl, rfl⟩) hHeld ?_
        (try simp only [Act.put, List.setIfInBounds_toArray, List.set_cons_zero, List.set_cons_succ])
        refine take_at (i := 31) (d := some 54) rfl rfl (by kernel_rfl) (by kernel_rfl) (by kernel_rfl) (fun _ _ _ h => h) (Or.inr ⟨by rfl, rfl⟩) hHeld ?_
        (try simp only [Act.put, List.setIfInBounds_toArray, List.set_cons_zero, List.set_cons_succ])
        refine take_at (i := 32) (d := some 55) rfl rfl (by kernel_rfl) (by kernel_rfl) (by kernel_rfl) (fun _ _ _ h => h) (Or.inr ⟨by rfl, rfl⟩) hHeld ?_
        (try simp only [Act.put, List.setIfInBounds_toArray, List.set_cons_zero, List.set_cons_succ])
        refine take_at (i := 33) (d := some 56) rfl rfl (by kernel_rfl) (by kernel_rfl) (by kernel_rfl) (fun _ _ _ h => h) (Or.inr ⟨by rfl, rfl⟩) hHeld ?_
        (try simp only [Act.put, List.setIfInBounds_toArray, List.set_cons_zero, List.set_cons_succ])
        refine take_at (i := 34) (d := some 57) (v := ?v34) rfl rfl (by kernel_rfl) (by kernel_rfl) (by kernel_rfl) (fun _ _ _ h => h) (Or.inl ⟨by rfl, ?y34⟩) hHeld ?r34
        case y34 => (intro w hSw; (try dsimp only at hSw); go_simp <;> with_reducible rfl)
        (try simp only [Act.put, List.setIfInBounds_toArray, List.set_cons_zero, List.set_cons_succ])
        refine take_at (i := 35) (d := some 58) (v := ?v35) rfl rfl (by kernel_rfl) (by kernel_rfl) (by kernel_rfl) (fun _ _ _ h => h) (Or.inl ⟨by rfl, ?y35⟩) hHeld ?r35
        case y35 => (intro w hSw; (try dsimp only at hSw); go_simp <;> with_reducible rfl)
        (try simp only [Act.put, List.setIfInBounds_toArray, List.set_cons_zero, List.set_cons_succ])
        refine wpAnyH_done (by kernel_rfl) ?_ _
        go_wp2_with fail
        go_meet
        case rel => exact ⟨rfl, HSt⟩
    case rest =>
      obtain ⟨rfl, HSt⟩ := hcut
      clear HMa HMb HMc HSc HSab HSba KM KM2 KV KMM HS2t
      obtain ⟨d0, d1, d2, d3, d4, d5, d6, e0, e1, e2, e3, e4, e5, e6⟩ := HSt.out.1.st.cells
      go_upto_region 7 with (first
        | (go_at_call 19; (with_reducible refine (HCr.out _ HSt.out.1.st).mono ?_); rintro e wr ⟨sw, rfl, hNw, HBc⟩; obtain ⟨aw, cw, rfl⟩ := hNw.form; have HNw := Lib.hid hNw.in_; have HBr := Lib.hid HBc; clear HBc hNw)
        | fail)
      obtain ⟨n3, hn3⟩ : ∃ n3, n3 = wc.heap.size := ⟨_, rfl⟩
      rw [← hn3] at HNw
      obtain ⟨qw, hqw⟩ : ∃ qw, qw = wr.heap.size := ⟨_, rfl⟩
      obtain ⟨Ww, hWw⟩ : ∃ Ww, Ww = wr.alloc (richObj a (.slice aw a.n cw)) := ⟨_, rfl⟩
      have hbw : Below wc.heap.size wc Ww := by rw [hWw]; exact below_t' HBr.out (new_b _ _)
      have HJw := Lib.hid (show JSt w g a b (.slice xa a.n ca) (.slice xb b.n cb) Ww from HSt.out.1.st.below hbw)
      have hqB : RichB Ww q a (.slice ac a.n cc) := HSt.out.1.wb.below hbw
      have HWb := Lib.hid (show RichB Ww qw a (.slice aw a.n cw) from by rw [hWw, hqw]; exact RichB.new _ _ _)
      have HWa := Lib.hid (show ArgsIn (fun b => n3 ≤ b) Ww a (.slice aw a.n cw) from by rw [hWw]; exact HNw.out.new_ (new_b _ _))
      have HNq := Lib.hid (show n3 ≤ qw by rw [hn3, hqw]; exact HBr.out.size)
      have hq3 : q < n3 := by rw [hn3]; exact HSt.out.1.wb.lt
      obtain ⟨S, hSf, hA0⟩ := AltSt.start (q := q) (n3 := n3) HNc.out (below_t' HB3.out (below_t' HSt.out.2 hbw)) (by rw [HQ.out]; exact Nat.le_refl _) hq3 HN2.out hqB
      have HSf := Lib.hid hSf
      have HA1 := Lib.hid (hA0.kind ((a.kind + 1) % 256))
      have b0 : Ww.cell? ⟨q, 0, none⟩ = some (.int .u8 a.kind) := hqB.cell 0
      have b1 : Ww.frozen? ⟨q, 0, none⟩ = false := hqB.frozen 0
      have b2 : q < Ww.heap.size := hqB.lt
      rw [← hqw, ← hWw]
      clear hqw hWw hbw hqB hA0 hSf hn3 HNw HBr HNc HB3 HCells HCr d0 d1 d2 d3 d4 d5 d6 e0 e1 e2 e3 e4 e5 e6
      go_wp2_with fail
      obtain ⟨k', hk'⟩ : ∃ k', k' = (a.kind + 1) % 256 := ⟨_, rfl⟩
      rw [← hk'] at HA1 HKn ⊢
      clear hk' b0 b1 b2
      go_loopw [9] (fun i wr => ∃ k : Nat, k ≤ a.n ∧ i = .int .i64 k ∧ Hid (AltSt Ww n1 n3 q a k' (.slice ac a.n cc) S wr)) (fun i wr => a.n - (intOf i).toNat)
      case atStart => exact ⟨0, by omega, rfl, HA1⟩
      case round =>
        obtain ⟨k, hk, rfl, HAk⟩ := hrel
        have c6 : wr.cell? ⟨q, 6, none⟩ = some (.slice ac a.n cc) := HAk.out.bx.cell 6
        have cl : q < wr.heap.size := HAk.out.bx.lt
        by_cases hlt : k < a.n
        · have hki : (k : Int) < (a.n : Int) := by omega
          obtain ⟨bc, oc, cc', he, hbl, h6, ⟨vz, h0⟩, hfz⟩ := HAk.out.at_ k hlt
          injection he with he1 _ he2
          subst he1
          subst he2
          have f0 := hfz (oc + k * 7)
          obtain ⟨xk, yk, hx⟩ := HSf.out k hlt
          have HA2 := Lib.hid (HAk.out.arg k)
          have c62 : (wr.setCell ⟨bc, oc + k * 7, none⟩ (.int .u8 99)).cell? ⟨q, 6, none⟩ = some (.slice (some ⟨bc, oc, none⟩) a.n cc) := HA2.out.bx.cell 6
          have cl2 : q < (wr.setCell ⟨bc, oc + k * 7, none⟩ (.int .u8 99)).heap.size := HA2.out.bx.lt
          obtain ⟨bc', oc', cc2, he, hbl2, h62, _, hfz2⟩ := HA2.out.at_ k hlt
          injection he with he1 _ he2
          injection he1 with he1
          injection he1 with he3 he4
          subst he3
          subst he4
          subst he2
          rw [hx] at h62
          by_cases hch : 0 < (a.args k).n
          · have hc1 : (0 : Int) < ((a.args k).n : Int) := by omega
            have hc2 : decide ((0 : Int) < ((a.args k).n : Int)) = true := decide_eq_true hc1
            obtain ⟨b2, o2, c2, v2, hS2, p1, p2, p3, p4, p5, p6⟩ := HA2.out.ch k hlt hch
            rw [hx] at hS2
            injection hS2 with hS3 _ hS4
            subst hS3
            subst hS4
            have HA3 := Lib.hid (HA2.out.name b2 (o2 + 1) p1 p2 p3 p4 (.string ⟨#[63]⟩))
            have p7 := cell_lt p5
            clear p1 p2 p3 p4 hfz hfz2 h6
            go_wp2_with fail
            go_roundw
            case rel => exact ⟨k + 1, by omega, by go_num, HA3⟩
            case measure => simp [intOf]; omega
          · have hc1 : ((a.args k).n : Int) ≤ 0 := by omega
            have hc2 : decide ((0 : Int) < ((a.args k).n : Int)) = false := by rw [decide_eq_false]; omega
            clear hfz hfz2
            go_wp2_with fail
            go_roundw
            case rel => exact ⟨k + 1, by omega, by go_num, HA2⟩
            case measure => simp [intOf]; omega
        · obtain rfl : k = a.n := by omega
          have HT := HAk.out.t
          have HSt := Lib.hid (show JSt w g a b (.slice xa a.n ca) (.slice xb b.n cb) wr from HJw.out.touch HT (fun k f => by have h1 := f.1; have h2 := HN1.out; omega) HWg.out)
          have hnf : ¬ (n1 ≤ qw ∧ qw < n3) := fun f => by have := HNq.out; omega
          have hwb : RichB wr qw a (.slice aw a.n cw) := Blk.touch HWb.out HT hnf
          have HWf := Lib.hid (show IsArgs wr a (.slice aw a.n cw) from (HWa.out.keep (B' := fun b => n3 ≤ b) HT.size (fun b h1 h2 => ⟨HT.block b h2 (fun f => by have := f.2; omega), h1⟩)).is)
          have HBx := Lib.hid HAk.out.bx
          obtain ⟨d0, d1, d2, d3, d4, d5, d6, e0, e1, e2, e3, e4, e5, e6⟩ := HSt.out.cells
          have x0 : wr.cell? ⟨qw, 0, none⟩ = some (.int .u8 a.kind) := hwb.cell 0
          have x1 : wr.cell? ⟨qw, 1, none⟩ = some (.string a.dep.name) := hwb.cell 1
          have x2 : wr.cell? ⟨qw, 2, none⟩ = some (.int .u8 a.dep.op) := hwb.cell 2
          have x3 : wr.cell? ⟨qw, 3, none⟩ = some (.int .i64 a.dep.ep) := hwb.cell 3
          have x4 : wr.cell? ⟨qw, 4, none⟩ = some (.string a.dep.ver) := hwb.cell 4
          have x5 : wr.cell? ⟨qw, 5, none⟩ = some (.string a.dep.rel) := hwb.cell 5
          have x6 : wr.cell? ⟨qw, 6, none⟩ = some (.slice aw a.n cw) := hwb.cell 6
          clear HT hnf hwb
          go_wp2_with (first
            | (go_at_call 20; (with_reducible refine (HRs.out _ HSt.out (.slice aw a.n cw) HWf.out).mono ?_); rintro e wx ⟨rfl, HBc⟩; have HSt := Lib.hid (HSt.out.below HBc); have HBx := Lib.hid (HBx.out.below HBc HBx.out.lt); clear HBc; obtain ⟨d0, d1, d2, d3, d4, d5, d6, e0, e1, e2, e3, e4, e5, e6⟩ := HSt.out.cells; have y0 : wx.cell? ⟨q, 0, none⟩ = some (.int .u8 k') := HBx.out.cell 0; have y1 : wx.cell? ⟨q, 1, none⟩ = some (.string a.dep.name) := HBx.out.cell 1; have y2 : wx.cell? ⟨q, 2, none⟩ = some (.int .u8 a.dep.op) := HBx.out.cell 2; have y3 : wx.cell? ⟨q, 3, none⟩ = some (.int .i64 a.dep.ep) := HBx.out.cell 3; have y4 : wx.cell? ⟨q, 4, none⟩ = some (.string a.dep.ver) := HBx.out.cell 4; have y5 : wx.cell? ⟨q, 5, none⟩ = some (.string a.dep.rel) := HBx.out.cell 5; have y6 : wx.cell? ⟨q, 6, none⟩ = some (.slice ac a.n cc) := HBx.out.cell 6)
            | (go_at_call 18; (with_reducible refine (same_unlike a (.slice xa a.n ca) (.slice ac a.n cc) k' a.dep _ HKn.out).mono ?_); rintro e wx ⟨rfl, HBc⟩; have HSt := Lib.hid (HSt.out.below HBc); clear HBc)
            | fail)
          go_ret
          exact ⟨rfl, HSt.out.bl⟩
end Go.Proofs.YtadogjnoklabdaaDoor
