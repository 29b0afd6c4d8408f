/- The document's Same; the plain laws of what is the same. Conditions: as each theorem names them. -/
import Derived.Test.YtadogjnoklabdaaDoorH31
import Derived.Test.YtadogjnoklabdaaDoorH19
import Derived.Deep.RegionHeld3
namespace Go.Proofs.YtadogjnoklabdaaDoor
open Go.ChangeShapes Go.WideShapes Go.ChangeAt Go.RowKit Go.Deep
set_option maxRecDepth 100000

theorem allN_iff {p : Nat → Bool} : ∀ n, allN p n = true ↔ ∀ j, j < n → p j = true
  | 0 => by simp [allN]
  | n + 1 => by
    simp only [allN, Bool.and_eq_true, allN_iff n]
    constructor
    · rintro ⟨h1, h2⟩ j hj
      by_cases e : j = n
      · subst e; exact h2
      · exact h1 j (by omega)
    · exact fun h => ⟨fun j hj => h j (by omega), h n (by omega)⟩
theorem same_iff {a b : RichD} : sameE a b = true ↔ a.kind = b.kind ∧ a.dep = b.dep ∧ a.n = b.n ∧ ∀ j, j < a.n → sameE (a.args j) (b.args j) = true := by
  rw [same_eq]
  simp only [Bool.and_eq_true, decide_eq_true_eq, depSame_iff, allN_iff]
theorem same_refl : (r : RichD) → sameE r r = true
  | .nil => by rw [same_iff]; exact ⟨rfl, rfl, rfl, fun j hj => absurd hj (Nat.not_lt_zero j)⟩
  | .node k d n f => by
    rw [same_iff]
    exact ⟨rfl, rfl, rfl, fun j _ => same_refl (f j)⟩
theorem same_turn : (a b : RichD) → sameE a b = true → sameE b a = true
  | .nil, b, h => by
    rw [same_iff] at h ⊢
    exact ⟨h.1.symm, h.2.1.symm, h.2.2.1.symm, fun j hj => absurd (h.2.2.1 ▸ hj : j < RichD.nil.n) (Nat.not_lt_zero j)⟩
  | .node k d n f, b, h => by
    rw [same_iff] at h ⊢
    exact ⟨h.1.symm, h.2.1.symm, h.2.2.1.symm, fun j hj => same_turn (f j) _ (h.2.2.2 j (by rw [h.2.2.1]; exact hj))⟩
theorem same_comm (a b : RichD) : sameE a b = sameE b a := by
  rw [Bool.eq_iff_iff]
  exact ⟨same_turn a b, same_turn b a⟩
theorem sumN_congr {f g : Nat → Nat} : ∀ n, (∀ j, j < n → f j = g j) → sumN f n = sumN g n
  | 0, _ => rfl
  | n + 1, h => by
    simp only [sumN]
    rw [sumN_congr n (fun j hj => h j (by omega)), h n (by omega)]
theorem maxN_congr {f g : Nat → Nat} : ∀ n, (∀ j, j < n → f j = g j) → maxN f n = maxN g n
  | 0, _ => rfl
  | n + 1, h => by
    simp only [maxN]
    rw [maxN_congr n (fun j hj => h j (by omega)), h n (by omega)]
theorem cat_congr {α : Type} {f g : Nat → List α} : ∀ n, (∀ j, j < n → f j = g j) → catN f n = catN g n
  | 0, _ => rfl
  | n + 1, h => by
    simp only [catN]
    rw [cat_congr n (fun j hj => h j (by omega)), h n (by omega)]
theorem same_count : (a b : RichD) → sameE a b = true → a.count = b.count
  | .nil, b, h => by
    rw [same_iff] at h
    rw [count_eq b, ← h.2.2.1]
    rfl
  | .node k d n f, b, h => by
    rw [same_iff] at h
    rw [count_eq, count_eq b, ← h.2.2.1]
    exact congrArg (1 + ·) (sumN_congr _ fun j hj => same_count (f j) _ (h.2.2.2 j hj))
theorem same_depth : (a b : RichD) → sameE a b = true → a.depth = b.depth
  | .nil, b, h => by
    rw [same_iff] at h
    rw [depth_eq b, ← h.2.2.1, ← h.1]
    rfl
  | .node k d n f, b, h => by
    rw [same_iff] at h
    rw [depth_eq, depth_eq b, ← h.2.2.1, ← h.1]
    have : maxN (fun j => ((RichD.node k d n f).args j).depth) (RichD.node k d n f).n = maxN (fun j => (b.args j).depth) (RichD.node k d n f).n := maxN_congr _ fun j hj => same_depth (f j) _ (h.2.2.2 j hj)
    rw [this]
theorem same_parts : (a b : RichD) → (al : Bool) → sameE a b = true → a.parts al = b.parts al
  | .nil, b, al, h => by
    rw [same_iff] at h
    rw [parts_eq b, ← h.2.2.1, ← h.1, ← h.2.1]
    rfl
  | .node k d n f, b, al, h => by
    rw [same_iff] at h
    rw [parts_eq, parts_eq b, ← h.2.2.1, ← h.1, ← h.2.1]
    exact congrArg (_ :: ·) (cat_congr _ fun j hj => same_parts (f j) _ _ (h.2.2.2 j hj))
theorem same_may {a b : RichD} (h : sameE a b = true) (wh : Int) : mayE a wh = mayE b wh := by
  unfold mayE
  rw [same_count a b h, same_depth a b h, same_parts a b false h]
theorem IsArgs.node_n {w : World} {r : RichD} {s : Value} (h : IsArgs w r s) : fitR r.kind r.dep := by
  cases h
  assumption

theorem same_n {a b : RichD} (h : ¬ a.n = b.n) : sameE a b = false := by rw [same_eq, decide_eq_false h]; simp

set_option maxHeartbeats 4000000 in
theorem rsame_any (W : World) (r : RichD) : ∀ (s : Value) (r2 : RichD) (s2 : Value) (w : World), IsArgs W r s → IsArgs W r2 s2 → Below W.heap.size W w →
    Calls Tryd.prog 20 #[r.val s, r2.val s2] w fun e w' => e = .returned (.bool (sameE r r2)) ∧ Below w.heap.size w w' := by
  have step : ∀ (r : RichD) (s : Value) (r2 : RichD) (s2 : Value) (w : World), IsArgs W r s → IsArgs W r2 s2 → Below W.heap.size W w →
      (∀ j, j < r.n → ∀ (s : Value) (r2 : RichD) (s2 : Value) (w : World), IsArgs W (r.args j) s → IsArgs W r2 s2 → Below W.heap.size W w → Calls Tryd.prog 20 #[(r.args j).val s, r2.val s2] w fun e w' => e = .returned (.bool (sameE (r.args j) r2)) ∧ Below w.heap.size w w') →
      Calls Tryd.prog 20 #[r.val s, r2.val s2] w fun e w' => e = .returned (.bool (sameE r r2)) ∧ Below w.heap.size w w' := by
    intro r s r2 s2 w hs hs2 hB ih
    obtain ⟨a, c, rfl⟩ := hs.form
    obtain ⟨a2, c2, rfl⟩ := hs2.form
    have hn := hs.bound
    have hn2 := hs2.bound
    obtain ⟨S, hA, hS⟩ := hs.elems2
    obtain ⟨S2, hA2, hS2⟩ := hs2.elems2
    obtain ⟨T, hT⟩ : ∃ T, T = sameE r r2 := ⟨_, rfl⟩
    rw [← hT]
    have HT := Lib.hid hT
    obtain ⟨w2, hw2⟩ : ∃ w2, w2 = (w.alloc (richObj r (.slice a r.n c))).alloc (richObj r2 (.slice a2 r2.n c2)) := ⟨_, rfl⟩
    obtain ⟨g, hg⟩ : ∃ g, g = w.heap.size := ⟨_, rfl⟩
    have hb2 : Below w.heap.size w w2 := by rw [hw2]; exact below_t' (new_b _ _) (new_b _ _)
    have HR0 := Lib.hid (show RichAt w2 g 0 r (.slice a r.n c) ∧ RichAt w2 (g + 1) 0 r2 (.slice a2 r2.n c2) ∧ Below w.heap.size w w2 from ⟨by rw [hw2, hg]; exact (rich_new _ _ _).below (new_b _ _), by
      rw [hw2, hg]
      have h := rich_new (w.alloc (richObj r (.slice a r.n c))) r2 (.slice a2 r2.n c2)
      rwa [World.size_alloc] at h, hb2⟩)
    have HBW := Lib.hid hB
    obtain ⟨⟨d0, d1, d2, d3, d4, d5, d6, d7⟩, ⟨e0, e1, e2, e3, e4, e5, e6, e7⟩, _⟩ := HR0.out
    simp only [Nat.zero_add] at d1 d2 d3 d4 d5 d6 e1 e2 e3 e4 e5 e6
    by_cases hnn : r.n = r2.n
    · have HE := Lib.hid (show ∀ w', Below W.heap.size W w' → ∀ j, j < r.n → (∃ b o, a = some ⟨b, o, none⟩ ∧ RichAt w' b (o + j * 7) (r.args j) (S j)) ∧ ∃ b o, a2 = some ⟨b, o, none⟩ ∧ RichAt w' b (o + j * 7) (r2.args j) (S2 j) from fun w' h j hj => by
        obtain ⟨b, o, h1, h2⟩ := hA j hj
        obtain ⟨b', o', h3, h4⟩ := hA2 j (by omega)
        exact ⟨⟨b, o, h1, h2.below h⟩, b', o', h3, h4.below h⟩)
      have HI := Lib.hid (show ∀ j, j < r.n → ∀ w', Below W.heap.size W w' → Calls Tryd.prog 20 #[(r.args j).val (S j), (r2.args j).val (S2 j)] w' fun e w'' => e = .returned (.bool (sameE (r.args j) (r2.args j))) ∧ Below w'.heap.size w' w'' from fun j hj w' h => ih j hj _ _ _ w' (hS j hj) (hS2 j (by omega)) h)
      have HSf := Lib.hid (show ∀ j, j < r.n → (∃ a' c', S j = .slice a' (r.args j).n c') ∧ ∃ a' c', S2 j = .slice a' (r2.args j).n c' from fun j hj => ⟨(hS j hj).form, (hS2 j (by omega)).form⟩)
      have HNN := Lib.hid hnn
      have hn3 : (r2.n : Int) = (r.n : Int) := by omega
      rw [← hnn] at hw2 HR0 e6 ⊢
      clear hT hA hA2 hS hS2 hs hs2 ih hB hn3 hn2 hnn hb2
      unfold RichD.val richV
      go_enter Tryd.func20, Tryd.ntmps20
      go_upto_region 1 with fail
      rw [← hw2, ← hg]
      clear hw2 hg
      go_wp2_with fail
      rotate_left
      all_goals first
        | (go_ret
           first
             | exact ⟨ret_bool ((HT.out.trans (same_dep (dep_rel (by assumption)))).symm), HR0.out.2.2⟩
             | exact ⟨ret_bool ((HT.out.trans (same_dep (dep_ver (by assumption)))).symm), HR0.out.2.2⟩
             | exact ⟨ret_bool ((HT.out.trans (same_dep (dep_ep (by assumption)))).symm), HR0.out.2.2⟩
             | exact ⟨ret_bool ((HT.out.trans (same_dep (dep_op (by assumption)))).symm), HR0.out.2.2⟩
             | exact ⟨ret_bool ((HT.out.trans (same_dep (dep_name (by assumption)))).symm), HR0.out.2.2⟩
             | exact ⟨ret_bool ((HT.out.trans (same_kind (by assumption))).symm), HR0.out.2.2⟩)
        | skip
      have HTT := Lib.hid (show T = allN (fun j => sameE (r.args j) (r2.args j)) r.n by
        rw [HT.out, same_rest (by assumption) (dep_all (by assumption) (by assumption) (by assumption) (by assumption) (by assumption))]
        unfold argsE
        rw [decide_eq_true HNN.out]
        rfl)
      clear HT
      go_loopw [5] (fun i wr => ∃ k : Nat, k ≤ r.n ∧ i = .int .i64 k ∧ Hid (allN (fun j => sameE (r.args j) (r2.args j)) k = true) ∧ Hid (RichAt wr g 0 r (.slice a r.n c) ∧ RichAt wr (g + 1) 0 r2 (.slice a2 r.n c2) ∧ Below w.heap.size w wr)) (fun i wr => r.n - (intOf i).toNat)
      case atStart => exact ⟨0, by omega, rfl, Lib.hid rfl, HR0⟩
      case round =>
        obtain ⟨k, hk, rfl, HQ, HRk⟩ := hrel
        have d6 := HRk.out.1.c6
        have e6 := HRk.out.2.1.c6
        simp only [Nat.zero_add] at d6 e6
        have d7 := HRk.out.1.lt
        have e7 := HRk.out.2.1.lt
        by_cases hlt : k < r.n
        · have hki : (k : Int) < (r.n : Int) := by omega
          have HB2 := Lib.hid (HBW.out.trans (HRk.out.2.2.mono HBW.out.size))
          obtain ⟨⟨b, o, ha, hy1⟩, b', o', ha', hf1⟩ := HE.out wr HB2.out k hlt
          subst ha
          subst ha'
          obtain ⟨⟨xa, xc, hx⟩, ya, yc, hy⟩ := HSf.out k hlt
          have HM := Lib.hid (fun w' (h : Below wr.heap.size wr w') => HI.out k hlt w' (HB2.out.trans (h.mono HB2.out.size)))
          simp only [hx, hy] at HM
          obtain ⟨bb, hbb⟩ : ∃ bb, bb = sameE (r.args k) (r2.args k) := ⟨_, rfl⟩
          rw [← hbb] at HM
          have HBb := Lib.hid hbb
          have HSS := Lib.hid (show ∀ w', Below wr.heap.size wr w' → (w'.cell? ⟨g, 6, none⟩ = some (.slice (some ⟨b, o, none⟩) r.n c) ∧ w'.cell? ⟨g + 1, 6, none⟩ = some (.slice (some ⟨b', o', none⟩) r.n c2) ∧ w'.cell? ⟨b, o + k * 7, none⟩ = some (.int .u8 (r.args k).kind) ∧ w'.cell? ⟨b, o + k * 7 + 1, none⟩ = some (.string (r.args k).dep.name) ∧ w'.cell? ⟨b, o + k * 7 + 2, none⟩ = some (.int .u8 (r.args k).dep.op) ∧ w'.cell? ⟨b, o + k * 7 + 3, none⟩ = some (.int .i64 (r.args k).dep.ep) ∧ w'.cell? ⟨b, o + k * 7 + 4, none⟩ = some (.string (r.args k).dep.ver) ∧ w'.cell? ⟨b, o + k * 7 + 5, none⟩ = some (.string (r.args k).dep.rel) ∧ w'.cell? ⟨b, o + k * 7 + 6, none⟩ = some (.slice xa (r.args k).n xc) ∧ w'.cell? ⟨b', o' + k * 7, none⟩ = some (.int .u8 (r2.args k).kind) ∧ w'.cell? ⟨b', o' + k * 7 + 1, none⟩ = some (.string (r2.args k).dep.name) ∧ w'.cell? ⟨b', o' + k * 7 + 2, none⟩ = some (.int .u8 (r2.args k).dep.op) ∧ w'.cell? ⟨b', o' + k * 7 + 3, none⟩ = some (.int .i64 (r2.args k).dep.ep) ∧ w'.cell? ⟨b', o' + k * 7 + 4, none⟩ = some (.string (r2.args k).dep.ver) ∧ w'.cell? ⟨b', o' + k * 7 + 5, none⟩ = some (.string (r2.args k).dep.rel) ∧ w'.cell? ⟨b', o' + k * 7 + 6, none⟩ = some (.slice ya (r2.args k).n yc)) from fun w' h => by
            have q1 := (HRk.out.1.below h).c6
            have q2 := (HRk.out.2.1.below h).c6
            simp only [Nat.zero_add] at q1 q2
            obtain ⟨p0, p1, p2, p3, p4, p5, p6, _⟩ := hy1.below h
            obtain ⟨t0, t1, t2, t3, t4, t5, t6, _⟩ := hf1.below h
            rw [hx] at p6
            rw [hy] at t6
            exact ⟨q1, q2, p0, p1, p2, p3, p4, p5, p6, t0, t1, t2, t3, t4, t5, t6⟩)
          have HDr := Lib.hid (show Below wr.heap.size wr wr.drew from (Below.refl _ wr).drew)
          obtain ⟨y0, y1, y2, y3, y4, y5, y6, y7⟩ := hy1
          obtain ⟨f0, f1, f2, f3, f4, f5, f6, f7⟩ := hf1
          simp only [hx, hy] at y6 f6
          clear hbb
          go_upto_region 6 with fail
          go_region_held3 (fun w' => w'.cell? ⟨g, 6, none⟩ = some (.slice (some ⟨b, o, none⟩) r.n c) ∧ w'.cell? ⟨g + 1, 6, none⟩ = some (.slice (some ⟨b', o', none⟩) r.n c2) ∧ w'.cell? ⟨b, o + k * 7, none⟩ = some (.int .u8 (r.args k).kind) ∧ w'.cell? ⟨b, o + k * 7 + 1, none⟩ = some (.string (r.args k).dep.name) ∧ w'.cell? ⟨b, o + k * 7 + 2, none⟩ = some (.int .u8 (r.args k).dep.op) ∧ w'.cell? ⟨b, o + k * 7 + 3, none⟩ = some (.int .i64 (r.args k).dep.ep) ∧ w'.cell? ⟨b, o + k * 7 + 4, none⟩ = some (.string (r.args k).dep.ver) ∧ w'.cell? ⟨b, o + k * 7 + 5, none⟩ = some (.string (r.args k).dep.rel) ∧ w'.cell? ⟨b, o + k * 7 + 6, none⟩ = some (.slice xa (r.args k).n xc) ∧ w'.cell? ⟨b', o' + k * 7, none⟩ = some (.int .u8 (r2.args k).kind) ∧ w'.cell? ⟨b', o' + k * 7 + 1, none⟩ = some (.string (r2.args k).dep.name) ∧ w'.cell? ⟨b', o' + k * 7 + 2, none⟩ = some (.int .u8 (r2.args k).dep.op) ∧ w'.cell? ⟨b', o' + k * 7 + 3, none⟩ = some (.int .i64 (r2.args k).dep.ep) ∧ w'.cell? ⟨b', o' + k * 7 + 4, none⟩ = some (.string (r2.args k).dep.ver) ∧ w'.cell? ⟨b', o' + k * 7 + 5, none⟩ = some (.string (r2.args k).dep.rel) ∧ w'.cell? ⟨b', o' + k * 7 + 6, none⟩ = some (.slice ya (r2.args k).n yc)) (exact HSS.out _ HDr.out)
            ((first
              | (go_at_call 20; (with_reducible refine (HM.out _ HDr.out).mono ?_); rintro e w1 ⟨rfl, HBc⟩; have HDr := Lib.hid (below_t' HDr.out HBc); clear HBc)))
          have HRx := Lib.hid (show RichAt w1 g 0 r (.slice (some ⟨b, o, none⟩) r.n c) ∧ RichAt w1 (g + 1) 0 r2 (.slice (some ⟨b', o', none⟩) r.n c2) ∧ Below w.heap.size w w1 from ⟨HRk.out.1.below HDr.out, HRk.out.2.1.below HDr.out, below_t' HRk.out.2.2 HDr.out⟩)
          cases bb with
          | true =>
            go_wp2_with fail
            go_roundw
            case rel => exact ⟨k + 1, by omega, by go_num, Lib.hid (by simp only [allN]; rw [HQ.out, ← HBb.out]; rfl), HRx⟩
            case measure => simp [intOf]; omega
          | false =>
            have HT2 := Lib.hid (show T = false by rw [HTT.out]; exact allN_no r.n hlt HBb.out.symm)
            go_wp2_with fail
            go_ret
            exact ⟨ret_bool HT2.out.symm, HRx.out.2.2⟩
        · obtain rfl : k = r.n := by omega
          have HT2 := Lib.hid (show T = true by rw [HTT.out]; exact HQ.out)
          go_wp2_with fail
          go_ret
          exact ⟨ret_bool HT2.out.symm, HRk.out.2.2⟩
    · have h1 : ¬ (r.n : Int) = (r2.n : Int) := by omega
      have HTf := Lib.hid (show T = false by rw [HT.out]; exact same_n hnn)
      clear hT hA hA2 hS hS2 hs hs2 ih hB hn2 hnn hb2 HT
      unfold RichD.val richV
      go_enter Tryd.func20, Tryd.ntmps20
      go_upto_region 1 with fail
      rw [← hw2, ← hg]
      clear hw2 hg
      go_wp2_with fail
      all_goals
        go_ret
        exact ⟨ret_bool HTf.out.symm, HR0.out.2.2⟩
  induction r with
  | nil => exact fun s r2 s2 w h1 h2 h3 => step .nil s r2 s2 w h1 h2 h3 (fun j hj => absurd hj (Nat.not_lt_zero j))
  | node k d n f ih => exact fun s r2 s2 w h1 h2 h3 => step (.node k d n f) s r2 s2 w h1 h2 h3 (fun j _ => ih j)
end Go.Proofs.YtadogjnoklabdaaDoor
