/- ShapeTells: its walk. Conditions: as each theorem names them. -/
import Derived.Test.YtadogjnoklabdaaDoorH38
import Derived.Test.YtadogjnoklabdaaDoorH26
namespace Go.Proofs.YtadogjnoklabdaaDoor
open Go.ChangeShapes Go.WideShapes Go.ChangeAt Go.RowKit Go.Deep
set_option maxRecDepth 100000

/-- Two parameters' blocks, and a copy's. -/
structure TSt (w : World) (g : Nat) (a b : RichD) (sa sb : Value) (q : Nat) (sw : Value) (W : World) : Prop where
  st : JSt w g a b sa sb W
  wb : RichB W q a sw
  ia : IsArgs W a sw
theorem TSt.below {w W W' : World} {g : Nat} {a b : RichD} {sa sb : Value} {q : Nat} {sw : Value} (h : TSt w g a b sa sb q sw W) (hb : Below W.heap.size W W') : TSt w g a b sa sb q sw W' := ⟨h.st.below hb, h.wb.below hb, h.ia.kept hb⟩
theorem TSt.drew {w W : World} {g : Nat} {a b : RichD} {sa sb : Value} {q : Nat} {sw : Value} (h : TSt w g a b sa sb q sw W) : TSt w g a b sa sb q sw W.drew := h.below (Below.refl _ W).drew
theorem atoms_600 {r : RichD} (h : r.count ≤ 600) : r.atoms.length ≤ 4611686018427387904 := by
  have := atoms_len r
  omega

set_option maxHeartbeats 8000000 in
theorem tells_any (a b : RichD) (sa sb : Value) (w : World) (ha : IsArgs w a sa) (hb : IsArgs w b sb) (wh : Int) (hwh : 0 ≤ wh ∧ wh < 256) (hW : Words w) (hO : Ops w) :
    Calls Tryd.prog 8 #[a.val sa, b.val sb, .int .u8 wh] w fun e w' => e = .returned (.bool true) ∧ Below w.heap.size w w' := by
  obtain ⟨xa, ca, rfl⟩ := ha.form
  obtain ⟨xb, cb, rfl⟩ := hb.form
  obtain ⟨g, hg⟩ : ∃ g, g = w.heap.size := ⟨_, rfl⟩
  obtain ⟨w1, hw1⟩ : ∃ w1, w1 = (w.alloc (richObj a (.slice xa a.n ca))).alloc (richObj b (.slice xb b.n cb)) := ⟨_, rfl⟩
  have HSt := Lib.hid (show JSt w g a b (.slice xa a.n ca) (.slice xb b.n cb) w1 from by rw [hw1, hg]; exact JSt.new _ _ _ _ _)
  have HLa := Lib.hid (fun (W : World) (h : JSt w g a b (.slice xa a.n ca) (.slice xb b.n cb) W) => large_any a _ W (ha.kept h.bl))
  have HLb := Lib.hid (fun (W : World) (h : JSt w g a b (.slice xa a.n ca) (.slice xb b.n cb) W) => large_any b _ W (hb.kept h.bl))
  obtain ⟨d0, d1, d2, d3, d4, d5, d6, e0, e1, e2, e3, e4, e5, e6⟩ := HSt.out.cells
  by_cases hl : 600 ≤ a.count ∨ 600 ≤ b.count
  · have hd : decide (600 ≤ a.count) = true ∨ (decide (600 ≤ a.count) = false ∧ decide (600 ≤ b.count) = true) := by
      rcases Nat.lt_or_ge a.count 600 with h | h
      · exact .inr ⟨decide_eq_false (by omega), decide_eq_true (by omega)⟩
      · exact .inl (decide_eq_true h)
    clear ha hb hW hO hl
    rcases hd with hd | ⟨hd, hd2⟩
    · rw [hd] at HLa
      unfold RichD.val richV
      go_enter Tryd.func8, Tryd.ntmps8
      go_upto_region 1 with fail
      rw [← hw1, ← hg]
      clear hw1 hg
      go_wp2_with (first
        | (go_at_call 10; (with_reducible refine (HLa.out _ HSt.out).mono ?_); rintro e wx ⟨rfl, HBc⟩; have HSt := Lib.hid (HSt.out.below HBc); clear HBc)
        | fail)
      go_ret
      exact ⟨rfl, HSt.out.bl⟩
    · rw [hd] at HLa
      rw [hd2] at HLb
      unfold RichD.val richV
      go_enter Tryd.func8, Tryd.ntmps8
      go_upto_region 1 with fail
      rw [← hw1, ← hg]
      clear hw1 hg
      go_wp2_with (first
        | (go_at_call 10; (with_reducible refine (HLa.out _ HSt.out).mono ?_); rintro e wx ⟨rfl, HBc⟩; have HSt := Lib.hid (HSt.out.below HBc); clear HBc; obtain ⟨d0, d1, d2, d3, d4, d5, d6, e0, e1, e2, e3, e4, e5, e6⟩ := HSt.out.cells)
        | (go_at_call 10; (with_reducible refine (HLb.out _ HSt.out).mono ?_); rintro e wx ⟨rfl, HBc⟩; have HSt := Lib.hid (HSt.out.below HBc); clear HBc)
        | fail)
      go_ret
      exact ⟨rfl, HSt.out.bl⟩
  · have hda : decide (600 ≤ a.count) = false := decide_eq_false (by omega)
    have hdb : decide (600 ≤ b.count) = false := decide_eq_false (by omega)
    rw [hda] at HLa
    rw [hdb] at HLb
    have hca : a.count ≤ 600 := by omega
    have hca2 : a.count ≤ 4611686018427387904 := by omega
    have HCw := Lib.hid (fun (W : World) (h : JSt w g a b (.slice xa a.n ca) (.slice xb b.n cb) W) => rcopy_any w a _ W ha h.bl hca)
    have HGen := Lib.hid (show ∀ q aw cw, (∀ W, TSt w g a b (.slice xa a.n ca) (.slice xb b.n cb) q (.slice aw a.n cw) W → ∀ (m : Int), m = mayE a wh → Calls Tryd.prog 11 #[a.val (.slice xa a.n ca), .int .u8 wh] W fun e w' => e = .returned (.int .i64 m) ∧ Below W.heap.size W w') from fun q aw cw W h m hm => by
      rw [hm]; exact may_any w a _ ha W h.st.bl hca2 wh hwh (hW.below h.st.bl) (hO.below h.st.bl))
    have HGen2 := Lib.hid (show ∀ q aw cw, (∀ W, TSt w g a b (.slice xa a.n ca) (.slice xb b.n cb) q (.slice aw a.n cw) W → ∀ (m : Int), m = mayE a wh → Calls Tryd.prog 24 #[a.val (.slice xa a.n ca), .int .u8 wh] W fun e w' => e = .returned (.int .i64 m) ∧ Below W.heap.size W w') from fun q aw cw W h m hm => by
      rw [hm]; exact rmay_any w a _ ha W h.st.bl hca2 wh hwh)
    have HC1 := Lib.hid (show ∀ q aw cw, (∀ W, TSt w g a b (.slice xa a.n ca) (.slice xb b.n cb) q (.slice aw a.n cw) W → ∀ (n : Nat), n = a.count → Calls Tryd.prog 12 #[a.val (.slice xa a.n ca)] W fun e w' => e = .returned (.int .i64 (n : Int)) ∧ Below W.heap.size W w') from fun q aw cw W h m hm => by
      rw [hm]; exact count_any w a _ ha W h.st.bl hca2)
    have HC2 := Lib.hid (show ∀ q aw cw, (∀ W, TSt w g a b (.slice xa a.n ca) (.slice xb b.n cb) q (.slice aw a.n cw) W → ∀ (n : Nat), n = a.count → Calls Tryd.prog 25 #[a.val (.slice xa a.n ca)] W fun e w' => e = .returned (.int .i64 (n : Int)) ∧ Below W.heap.size W w') from fun q aw cw W h m hm => by
      rw [hm]; exact rcount_any w a _ ha W h.st.bl hca2)
    have HD1 := Lib.hid (show ∀ q aw cw, (∀ W, TSt w g a b (.slice xa a.n ca) (.slice xb b.n cb) q (.slice aw a.n cw) W → ∀ (n : Nat), n = a.depth → Calls Tryd.prog 13 #[a.val (.slice xa a.n ca)] W fun e w' => e = .returned (.int .i64 (n : Int)) ∧ Below W.heap.size W w') from fun q aw cw W h m hm => by
      rw [hm]; exact depth_any w a _ ha W h.st.bl hca2)
    have HD2 := Lib.hid (show ∀ q aw cw, (∀ W, TSt w g a b (.slice xa a.n ca) (.slice xb b.n cb) q (.slice aw a.n cw) W → ∀ (n : Nat), n = a.depth → Calls Tryd.prog 26 #[a.val (.slice xa a.n ca)] W fun e w' => e = .returned (.int .i64 (n : Int)) ∧ Below W.heap.size W w') from fun q aw cw W h m hm => by
      rw [hm]; exact rdepth_any w a _ ha W h.st.bl hca2)
    have HA1 := Lib.hid (show ∀ q aw cw, (∀ W, TSt w g a b (.slice xa a.n ca) (.slice xb b.n cb) q (.slice aw a.n cw) W → ∀ (ds : List DepD), ds = a.atoms → Calls Tryd.prog 15 #[a.val (.slice xa a.n ca)] W fun e w' => ∃ ao c, e = .returned (.slice ao ds.length c) ∧ Own w' 25 5 (.slice ao ds.length c) ds.length (enD ds) ∧ (∀ k, (Value.slice ao ds.length c).ownBlock = some k → W.heap.size ≤ k) ∧ Below W.heap.size W w') from fun q aw cw W h m hm => by
      rw [hm]; exact atoms_any w a _ ha W h.st.bl hca)
    have HA2 := Lib.hid (show ∀ q aw cw, (∀ W, TSt w g a b (.slice xa a.n ca) (.slice xb b.n cb) q (.slice aw a.n cw) W → ∀ (ds : List DepD), ds = a.atoms → Calls Tryd.prog 27 #[a.val (.slice xa a.n ca)] W fun e w' => ∃ ao c, e = .returned (.slice ao ds.length c) ∧ Own w' 25 5 (.slice ao ds.length c) ds.length (enD ds) ∧ (∀ k, (Value.slice ao ds.length c).ownBlock = some k → W.heap.size ≤ k) ∧ Below W.heap.size W w') from fun q aw cw W h m hm => by
      rw [hm]; exact ratoms_any w a _ W ha h.st.bl hca)
    have HS1 := Lib.hid (show ∀ q aw cw, (∀ W, TSt w g a b (.slice xa a.n ca) (.slice xb b.n cb) q (.slice aw a.n cw) W → ∀ (v : Bool), v = sameE a b → Calls Tryd.prog 18 #[a.val (.slice xa a.n ca), b.val (.slice xb b.n cb)] W fun e w' => e = .returned (.bool v) ∧ Below W.heap.size W w') from fun q aw cw W h m hm => by
      rw [hm]; exact same_any w a _ b _ W ha hb h.st.bl)
    have HS2 := Lib.hid (show ∀ q aw cw, (∀ W, TSt w g a b (.slice xa a.n ca) (.slice xb b.n cb) q (.slice aw a.n cw) W → ∀ (v : Bool), v = sameE a b → Calls Tryd.prog 20 #[a.val (.slice xa a.n ca), b.val (.slice xb b.n cb)] W fun e w' => e = .returned (.bool v) ∧ Below W.heap.size W w') from fun q aw cw W h m hm => by
      rw [hm]; exact rsame_any w a _ b _ W ha hb h.st.bl)
    have HS3 := Lib.hid (show ∀ q aw cw, (∀ W, TSt w g a b (.slice xa a.n ca) (.slice xb b.n cb) q (.slice aw a.n cw) W → ∀ ak ck, IsArgs W a (.slice ak a.n ck) → Calls Tryd.prog 20 #[a.val (.slice ak a.n ck), a.val (.slice xa a.n ca)] W fun e w' => e = .returned (.bool true) ∧ Below W.heap.size W w') from fun q aw cw W h ak ck hk => by
      have := rsame_any W a _ a _ W hk (ha.kept h.st.bl) (Below.refl _ _)
      rw [same_refl] at this
      exact this)
    have HCp := Lib.hid (show ∀ q aw cw, (∀ W, TSt w g a b (.slice xa a.n ca) (.slice xb b.n cb) q (.slice aw a.n cw) W → Calls Tryd.prog 17 #[a.val (.slice xa a.n ca)] W fun e w' => ∃ s', e = .returned (a.val s') ∧ NewArgs W.heap.size w' a s' ∧ Below W.heap.size W w') from fun q aw cw W h => copy_any w a _ W ha h.st.bl hca)
    have HLn := Lib.hid (atoms_600 hca)
    clear ha hb hW hO hl hca hca2 hda hdb hwh
    obtain ⟨m, hm⟩ : ∃ m, m = mayE a wh := ⟨_, rfl⟩
    obtain ⟨nn, hnn⟩ : ∃ n, n = a.count := ⟨_, rfl⟩
    obtain ⟨tt, htt⟩ : ∃ n, n = a.depth := ⟨_, rfl⟩
    obtain ⟨ds, hds⟩ : ∃ n, n = a.atoms := ⟨_, rfl⟩
    obtain ⟨vv, hvv⟩ : ∃ n, n = sameE a b := ⟨_, rfl⟩
    have KM := Lib.hid hm
    have KN := Lib.hid hnn
    have KT := Lib.hid htt
    have KD := Lib.hid hds
    have KV := Lib.hid hvv
    rw [← hds] at HLn
    clear hm hnn htt hds hvv
    unfold RichD.val richV
    go_enter Tryd.func8, Tryd.ntmps8
    go_upto_region 1 with fail
    rw [← hw1, ← hg]
    clear hw1 hg
    go_upto_region 4 with (first
      | (go_at_call 10; (with_reducible refine (HLa.out _ HSt.out).mono ?_); rintro e wx ⟨rfl, HBc⟩; have HSt := Lib.hid (HSt.out.below HBc); clear HBc; obtain ⟨d0, d1, d2, d3, d4, d5, d6, e0, e1, e2, e3, e4, e5, e6⟩ := HSt.out.cells)
      | (go_at_call 10; (with_reducible refine (HLb.out _ HSt.out).mono ?_); rintro e wx ⟨rfl, HBc⟩; have HSt := Lib.hid (HSt.out.below HBc); clear HBc; obtain ⟨d0, d1, d2, d3, d4, d5, d6, e0, e1, e2, e3, e4, e5, e6⟩ := HSt.out.cells)
      | (go_at_call 19; (with_reducible refine (HCw.out _ HSt.out).mono ?_); rintro e wc ⟨sw, rfl, hNw, HBc⟩; obtain ⟨aw, cw, rfl⟩ := hNw.form; have HS2t := Lib.hid (HSt.out.below HBc); have HNw := Lib.hid hNw.in_.is; clear HBc hNw)
      | fail)
    obtain ⟨q, hq⟩ : ∃ q, q = wc.heap.size := ⟨_, rfl⟩
    obtain ⟨w3, hw3⟩ : ∃ w3, w3 = wc.alloc (richObj a (.slice aw a.n cw)) := ⟨_, rfl⟩
    have HSt := Lib.hid (show TSt w g a b (.slice xa a.n ca) (.slice xb b.n cb) q (.slice aw a.n cw) w3.drew from TSt.drew ⟨by rw [hw3]; exact HS2t.out.alloc _, by rw [hw3, hq]; exact RichB.new _ _ _, by rw [hw3]; exact HNw.out.kept (new_b _ _)⟩)
    rw [← hq, ← hw3]
    clear hw3 hq HLa HLb HCw d0 d1 d2 d3 d4 d5 d6 e0 e1 e2 e3 e4 e5 e6
    have HCells := Lib.hid (show ∀ w', TSt w g a b (.slice xa a.n ca) (.slice xb b.n cb) q (.slice aw a.n cw) w' → (w'.cell? ⟨g, 0, none⟩ = some (.int .u8 a.kind) ∧ w'.cell? ⟨g, 1, none⟩ = some (.string a.dep.name) ∧ w'.cell? ⟨g, 2, none⟩ = some (.int .u8 a.dep.op) ∧ w'.cell? ⟨g, 3, none⟩ = some (.int .i64 a.dep.ep) ∧ w'.cell? ⟨g, 4, none⟩ = some (.string a.dep.ver) ∧ w'.cell? ⟨g, 5, none⟩ = some (.string a.dep.rel) ∧ w'.cell? ⟨g, 6, none⟩ = some (.slice xa a.n ca) ∧ w'.cell? ⟨g + 1, 0, none⟩ = some (.int .u8 b.kind) ∧ w'.cell? ⟨g + 1, 1, none⟩ = some (.string b.dep.name) ∧ w'.cell? ⟨g + 1, 2, none⟩ = some (.int .u8 b.dep.op) ∧ w'.cell? ⟨g + 1, 3, none⟩ = some (.int .i64 b.dep.ep) ∧ w'.cell? ⟨g + 1, 4, none⟩ = some (.string b.dep.ver) ∧ w'.cell? ⟨g + 1, 5, none⟩ = some (.string b.dep.rel) ∧ w'.cell? ⟨g + 1, 6, none⟩ = some (.slice xb b.n cb) ∧ w'.cell? ⟨q, 0, none⟩ = some (.int .u8 a.kind) ∧ w'.cell? ⟨q, 1, none⟩ = some (.string a.dep.name) ∧ w'.cell? ⟨q, 2, none⟩ = some (.int .u8 a.dep.op) ∧ w'.cell? ⟨q, 3, none⟩ = some (.int .i64 a.dep.ep) ∧ w'.cell? ⟨q, 4, none⟩ = some (.string a.dep.ver) ∧ w'.cell? ⟨q, 5, none⟩ = some (.string a.dep.rel) ∧ w'.cell? ⟨q, 6, none⟩ = some (.slice aw a.n cw)) from fun w' h => by
      obtain ⟨d0, d1, d2, d3, d4, d5, d6, e0, e1, e2, e3, e4, e5, e6⟩ := h.st.cells
      exact ⟨d0, d1, d2, d3, d4, d5, d6, e0, e1, e2, e3, e4, e5, e6, h.wb.cell 0, h.wb.cell 1, h.wb.cell 2, h.wb.cell 3, h.wb.cell 4, h.wb.cell 5, h.wb.cell 6⟩)
    go_region_held3 (fun w' => w'.cell? ⟨g, 0, none⟩ = some (.int .u8 a.kind) ∧ w'.cell? ⟨g, 1, none⟩ = some (.string a.dep.name) ∧ w'.cell? ⟨g, 2, none⟩ = some (.int .u8 a.dep.op) ∧ w'.cell? ⟨g, 3, none⟩ = some (.int .i64 a.dep.ep) ∧ w'.cell? ⟨g, 4, none⟩ = some (.string a.dep.ver) ∧ w'.cell? ⟨g, 5, none⟩ = some (.string a.dep.rel) ∧ w'.cell? ⟨g, 6, none⟩ = some (.slice xa a.n ca) ∧ w'.cell? ⟨g + 1, 0, none⟩ = some (.int .u8 b.kind) ∧ w'.cell? ⟨g + 1, 1, none⟩ = some (.string b.dep.name) ∧ w'.cell? ⟨g + 1, 2, none⟩ = some (.int .u8 b.dep.op) ∧ w'.cell? ⟨g + 1, 3, none⟩ = some (.int .i64 b.dep.ep) ∧ w'.cell? ⟨g + 1, 4, none⟩ = some (.string b.dep.ver) ∧ w'.cell? ⟨g + 1, 5, none⟩ = some (.string b.dep.rel) ∧ w'.cell? ⟨g + 1, 6, none⟩ = some (.slice xb b.n cb) ∧ w'.cell? ⟨q, 0, none⟩ = some (.int .u8 a.kind) ∧ w'.cell? ⟨q, 1, none⟩ = some (.string a.dep.name) ∧ w'.cell? ⟨q, 2, none⟩ = some (.int .u8 a.dep.op) ∧ w'.cell? ⟨q, 3, none⟩ = some (.int .i64 a.dep.ep) ∧ w'.cell? ⟨q, 4, none⟩ = some (.string a.dep.ver) ∧ w'.cell? ⟨q, 5, none⟩ = some (.string a.dep.rel) ∧ w'.cell? ⟨q, 6, none⟩ = some (.slice aw a.n cw)) (exact HCells.out _ HSt.out)
      ((first
        | (go_at_call 11; (with_reducible refine (HGen.out q aw cw _ HSt.out m KM.out).mono ?_); rintro e wx ⟨rfl, HBc⟩; have HSt := Lib.hid (HSt.out.below HBc); clear HBc)
        | (go_at_call 24; (with_reducible refine (HGen2.out q aw cw _ HSt.out m KM.out).mono ?_); rintro e wx ⟨rfl, HBc⟩; have HSt := Lib.hid (HSt.out.below HBc); clear HBc)
        | (go_at_call 12; (with_reducible refine (HC1.out q aw cw _ HSt.out nn KN.out).mono ?_); rintro e wx ⟨rfl, HBc⟩; have HSt := Lib.hid (HSt.out.below HBc); clear HBc)
        | (go_at_call 25; (with_reducible refine (HC2.out q aw cw _ HSt.out nn KN.out).mono ?_); rintro e wx ⟨rfl, HBc⟩; have HSt := Lib.hid (HSt.out.below HBc); clear HBc)
        | (go_at_call 13; (with_reducible refine (HD1.out q aw cw _ HSt.out tt KT.out).mono ?_); rintro e wx ⟨rfl, HBc⟩; have HSt := Lib.hid (HSt.out.below HBc); clear HBc)
        | (go_at_call 26; (with_reducible refine (HD2.out q aw cw _ HSt.out tt KT.out).mono ?_); rintro e wx ⟨rfl, HBc⟩; have HSt := Lib.hid (HSt.out.below HBc); clear HBc)
        | (go_at_call 15; (with_reducible refine (HA1.out q aw cw _ HSt.out ds KD.out).mono ?_); rintro e wx ⟨ae1, ce1, rfl, hOe, hHe, HBc⟩; have HR1 := Lib.hid hOe; have HSt := Lib.hid (HSt.out.below HBc); clear HBc hOe hHe)
        | (go_at_call 27; (with_reducible refine (HA2.out q aw cw _ HSt.out ds KD.out).mono ?_); rintro e wx ⟨ae2, ce2, rfl, hOe, hHe, HBc⟩; have HR2 := Lib.hid hOe.deps; have HR1 := Lib.hid (HR1.out.new HBc).deps; have HSt := Lib.hid (HSt.out.below HBc); clear HBc hOe hHe)
        | (go_at_call 16; (with_reducible refine (deps_same _ ds ae1 ae2 ce1 ce2 HR1.out HR2.out HLn.out).mono ?_); rintro e wx ⟨rfl, mq, rfl⟩; have HSt := Lib.hid (HSt.out.below (bel_drewN (Below.refl _ _) mq)))
        | (go_at_call 18; (with_reducible refine (HS1.out q aw cw _ HSt.out vv KV.out).mono ?_); rintro e wx ⟨rfl, HBc⟩; have HSt := Lib.hid (HSt.out.below HBc); clear HBc)
        | (go_at_call 20; (with_reducible refine (HS2.out q aw cw _ HSt.out vv KV.out).mono ?_); rintro e wx ⟨rfl, HBc⟩; have HSt := Lib.hid (HSt.out.below HBc); clear HBc)
        | (go_at_call 17; (with_reducible refine (HCp.out q aw cw _ HSt.out).mono ?_); rintro e wx ⟨sk, rfl, hNk, HBc⟩; obtain ⟨ak, ck, rfl⟩ := hNk.form; have HSt := Lib.hid (HSt.out.below HBc); have HNk := Lib.hid hNk.in_.is; clear HBc hNk)
        | (go_at_call 20; (with_reducible refine (HS3.out q aw cw _ HSt.out ak ck HNk.out).mono ?_); rintro e wx ⟨rfl, HBc⟩; have HSt := Lib.hid (HSt.out.below HBc); clear HBc)
        | (go_at_call 20; (with_reducible refine (HS3.out q aw cw _ HSt.out aw cw HSt.out.ia).mono ?_); rintro e wx ⟨rfl, HBc⟩; have HSt := Lib.hid (HSt.out.below HBc); clear HBc)))
    all_goals
      go_wp2_with fail
      go_ret
      exact ⟨rfl, HSt.out.st.bl⟩
end Go.Proofs.YtadogjnoklabdaaDoor
