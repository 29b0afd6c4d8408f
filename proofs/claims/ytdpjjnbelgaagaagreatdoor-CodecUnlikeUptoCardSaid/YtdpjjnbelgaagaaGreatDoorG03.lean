/- The document's Same; the plain laws of what is the same. Conditions: as each theorem names them. -/
import Derived.Test.YtdpjjnbelgaagaaGreatDoorG02
import Derived.Deep.RegionHeld3
import Derived.Test.YtdpjjnbelgaagaaGreatDoorRows
import Derived.Test.YtdpjjnbelgaagaaGreatDoorG01
import Derived.Laws.BytesArg
import Derived.BigQuiet
import Derived.Deep.RegionWith
import Derived.Laws.Concat
import Derived.Deep.QuietTactic
import Derived.Defers
import Derived.Recover
namespace Go.Proofs.YtdpjjnbelgaagaaGreatDoor
open Go.ChangeShapes Go.WideShapes Go.ChangeAt Go.RowKit Go.Deep
set_option maxRecDepth 100000

theorem allN_iff {p : Nat → Bool} : ∀ n, allN p n = true ↔ ∀ j, j < n → p j = true
  | 0 => by simp [allN]
  | n + 1 => by
    simp only [allN, Bool.and_eq_true, allN_iff n]
    constructor
    · rintro ⟨h1, h2⟩ j hj
      by_cases e : j = n
      · subst e; exact h2
      · exact h1 j (by omega)
    · exact fun h => ⟨fun j hj => h j (by omega), h n (by omega)⟩
theorem same_iff {a b : RichD} : sameE a b = true ↔ a.kind = b.kind ∧ a.dep = b.dep ∧ a.n = b.n ∧ ∀ j, j < a.n → sameE (a.args j) (b.args j) = true := by
  rw [same_eq]
  simp only [Bool.and_eq_true, decide_eq_true_eq, depSame_iff, allN_iff]
theorem same_refl : (r : RichD) → sameE r r = true
  | .nil => by rw [same_iff]; exact ⟨rfl, rfl, rfl, fun j hj => absurd hj (Nat.not_lt_zero j)⟩
  | .node k d n f => by
    rw [same_iff]
    exact ⟨rfl, rfl, rfl, fun j _ => same_refl (f j)⟩
theorem same_turn : (a b : RichD) → sameE a b = true → sameE b a = true
  | .nil, b, h => by
    rw [same_iff] at h ⊢
    exact ⟨h.1.symm, h.2.1.symm, h.2.2.1.symm, fun j hj => absurd (h.2.2.1 ▸ hj : j < RichD.nil.n) (Nat.not_lt_zero j)⟩
  | .node k d n f, b, h => by
    rw [same_iff] at h ⊢
    exact ⟨h.1.symm, h.2.1.symm, h.2.2.1.symm, fun j hj => same_turn (f j) _ (h.2.2.2 j (by rw [h.2.2.1]; exact hj))⟩
theorem sumN_congr {f g : Nat → Nat} : ∀ n, (∀ j, j < n → f j = g j) → sumN f n = sumN g n
  | 0, _ => rfl
  | n + 1, h => by
    simp only [sumN]
    rw [sumN_congr n (fun j hj => h j (by omega)), h n (by omega)]
theorem maxN_congr {f g : Nat → Nat} : ∀ n, (∀ j, j < n → f j = g j) → maxN f n = maxN g n
  | 0, _ => rfl
  | n + 1, h => by
    simp only [maxN]
    rw [maxN_congr n (fun j hj => h j (by omega)), h n (by omega)]
theorem cat_congr {α : Type} {f g : Nat → List α} : ∀ n, (∀ j, j < n → f j = g j) → catN f n = catN g n
  | 0, _ => rfl
  | n + 1, h => by
    simp only [catN]
    rw [cat_congr n (fun j hj => h j (by omega)), h n (by omega)]
theorem same_count : (a b : RichD) → sameE a b = true → a.count = b.count
  | .nil, b, h => by
    rw [same_iff] at h
    rw [count_eq b, ← h.2.2.1]
    rfl
  | .node k d n f, b, h => by
    rw [same_iff] at h
    rw [count_eq, count_eq b, ← h.2.2.1]
    exact congrArg (1 + ·) (sumN_congr _ fun j hj => same_count (f j) _ (h.2.2.2 j hj))
theorem same_depth : (a b : RichD) → sameE a b = true → a.depth = b.depth
  | .nil, b, h => by
    rw [same_iff] at h
    rw [depth_eq b, ← h.2.2.1, ← h.1]
    rfl
  | .node k d n f, b, h => by
    rw [same_iff] at h
    rw [depth_eq, depth_eq b, ← h.2.2.1, ← h.1]
    have : maxN (fun j => ((RichD.node k d n f).args j).depth) (RichD.node k d n f).n = maxN (fun j => (b.args j).depth) (RichD.node k d n f).n := maxN_congr _ fun j hj => same_depth (f j) _ (h.2.2.2 j hj)
    rw [this]
theorem same_parts : (a b : RichD) → (al : Bool) → sameE a b = true → a.parts al = b.parts al
  | .nil, b, al, h => by
    rw [same_iff] at h
    rw [parts_eq b, ← h.2.2.1, ← h.1, ← h.2.1]
    rfl
  | .node k d n f, b, al, h => by
    rw [same_iff] at h
    rw [parts_eq, parts_eq b, ← h.2.2.1, ← h.1, ← h.2.1]
    exact congrArg (_ :: ·) (cat_congr _ fun j hj => same_parts (f j) _ _ (h.2.2.2 j hj))
theorem same_may {a b : RichD} (h : sameE a b = true) (wh : Int) : mayE a wh = mayE b wh := by
  unfold mayE
  rw [same_count a b h, same_depth a b h, same_parts a b false h]
theorem IsArgs.node_n {w : World} {r : RichD} {s : Value} (h : IsArgs w r s) : fitR r.kind r.dep := by
  cases h
  assumption
theorem same_n {a b : RichD} (h : ¬ a.n = b.n) : sameE a b = false := by rw [same_eq, decide_eq_false h]; simp
set_option maxHeartbeats 4000000 in
theorem rsame_any (W : World) (r : RichD) : ∀ (s : Value) (r2 : RichD) (s2 : Value) (w : World), IsArgs W r s → IsArgs W r2 s2 → Below W.heap.size W w →
    Calls Tryz.prog 148 #[r.val s, r2.val s2] w fun e w' => e = .returned (.bool (sameE r r2)) ∧ Below w.heap.size w w' := by
  have step : ∀ (r : RichD) (s : Value) (r2 : RichD) (s2 : Value) (w : World), IsArgs W r s → IsArgs W r2 s2 → Below W.heap.size W w →
      (∀ j, j < r.n → ∀ (s : Value) (r2 : RichD) (s2 : Value) (w : World), IsArgs W (r.args j) s → IsArgs W r2 s2 → Below W.heap.size W w → Calls Tryz.prog 148 #[(r.args j).val s, r2.val s2] w fun e w' => e = .returned (.bool (sameE (r.args j) r2)) ∧ Below w.heap.size w w') →
      Calls Tryz.prog 148 #[r.val s, r2.val s2] w fun e w' => e = .returned (.bool (sameE r r2)) ∧ Below w.heap.size w w' := by
    intro r s r2 s2 w hs hs2 hB ih
    obtain ⟨a, c, rfl⟩ := hs.form
    obtain ⟨a2, c2, rfl⟩ := hs2.form
    have hn := hs.bound
    have hn2 := hs2.bound
    obtain ⟨S, hA, hS⟩ := hs.elems2
    obtain ⟨S2, hA2, hS2⟩ := hs2.elems2
    obtain ⟨T, hT⟩ : ∃ T, T = sameE r r2 := ⟨_, rfl⟩
    rw [← hT]
    have HT := Lib.hid hT
    obtain ⟨w2, hw2⟩ : ∃ w2, w2 = (w.alloc (richObj r (.slice a r.n c))).alloc (richObj r2 (.slice a2 r2.n c2)) := ⟨_, rfl⟩
    obtain ⟨g, hg⟩ : ∃ g, g = w.heap.size := ⟨_, rfl⟩
    have hb2 : Below w.heap.size w w2 := by rw [hw2]; exact below_t' (new_b _ _) (new_b _ _)
    have HR0 := Lib.hid (show RichAt w2 g 0 r (.slice a r.n c) ∧ RichAt w2 (g + 1) 0 r2 (.slice a2 r2.n c2) ∧ Below w.heap.size w w2 from ⟨by rw [hw2, hg]; exact (rich_new _ _ _).below (new_b _ _), by
      rw [hw2, hg]
      have h := rich_new (w.alloc (richObj r (.slice a r.n c))) r2 (.slice a2 r2.n c2)
      rwa [World.size_alloc] at h, hb2⟩)
    have HBW := Lib.hid hB
    obtain ⟨⟨d0, d1, d2, d3, d4, d5, d6, d7⟩, ⟨e0, e1, e2, e3, e4, e5, e6, e7⟩, _⟩ := HR0.out
    simp only [Nat.zero_add] at d1 d2 d3 d4 d5 d6 e1 e2 e3 e4 e5 e6
    by_cases hnn : r.n = r2.n
    · have HE := Lib.hid (show ∀ w', Below W.heap.size W w' → ∀ j, j < r.n → (∃ b o, a = some ⟨b, o, none⟩ ∧ RichAt w' b (o + j * 7) (r.args j) (S j)) ∧ ∃ b o, a2 = some ⟨b, o, none⟩ ∧ RichAt w' b (o + j * 7) (r2.args j) (S2 j) from fun w' h j hj => by
        obtain ⟨b, o, h1, h2⟩ := hA j hj
        obtain ⟨b', o', h3, h4⟩ := hA2 j (by omega)
        exact ⟨⟨b, o, h1, h2.below h⟩, b', o', h3, h4.below h⟩)
      have HI := Lib.hid (show ∀ j, j < r.n → ∀ w', Below W.heap.size W w' → Calls Tryz.prog 148 #[(r.args j).val (S j), (r2.args j).val (S2 j)] w' fun e w'' => e = .returned (.bool (sameE (r.args j) (r2.args j))) ∧ Below w'.heap.size w' w'' from fun j hj w' h => ih j hj _ _ _ w' (hS j hj) (hS2 j (by omega)) h)
      have HSf := Lib.hid (show ∀ j, j < r.n → (∃ a' c', S j = .slice a' (r.args j).n c') ∧ ∃ a' c', S2 j = .slice a' (r2.args j).n c' from fun j hj => ⟨(hS j hj).form, (hS2 j (by omega)).form⟩)
      have HNN := Lib.hid hnn
      have hn3 : (r2.n : Int) = (r.n : Int) := by omega
      rw [← hnn] at hw2 HR0 e6 ⊢
      clear hT hA hA2 hS hS2 hs hs2 ih hB hn3 hn2 hnn hb2
      unfold RichD.val richV
      go_enter Tryz.func148, Tryz.ntmps148
      go_upto_region 1 with fail
      rw [← hw2, ← hg]
      clear hw2 hg
      go_wp2_with fail
      rotate_left
      all_goals first
        | (go_ret
           first
             | exact ⟨ret_bool ((HT.out.trans (same_dep (dep_rel (by assumption)))).symm), HR0.out.2.2⟩
             | exact ⟨ret_bool ((HT.out.trans (same_dep (dep_ver (by assumption)))).symm), HR0.out.2.2⟩
             | exact ⟨ret_bool ((HT.out.trans (same_dep (dep_ep (by assumption)))).symm), HR0.out.2.2⟩
             | exact ⟨ret_bool ((HT.out.trans (same_dep (dep_op (by assumption)))).symm), HR0.out.2.2⟩
             | exact ⟨ret_bool ((HT.out.trans (same_dep (dep_name (by assumption)))).symm), HR0.out.2.2⟩
             | exact ⟨ret_bool ((HT.out.trans (same_kind (by assumption))).symm), HR0.out.2.2⟩)
        | skip
      have HTT := Lib.hid (show T = allN (fun j => sameE (r.args j) (r2.args j)) r.n by
        rw [HT.out, same_rest (by assumption) (dep_all (by assumption) (by assumption) (by assumption) (by assumption) (by assumption))]
        unfold argsE
        rw [decide_eq_true HNN.out]
        rfl)
      clear HT
      go_loopw [5] (fun i wr => ∃ k : Nat, k ≤ r.n ∧ i = .int .i64 k ∧ Hid (allN (fun j => sameE (r.args j) (r2.args j)) k = true) ∧ Hid (RichAt wr g 0 r (.slice a r.n c) ∧ RichAt wr (g + 1) 0 r2 (.slice a2 r.n c2) ∧ Below w.heap.size w wr)) (fun i wr => r.n - (intOf i).toNat)
      case atStart => exact ⟨0, by omega, rfl, Lib.hid rfl, HR0⟩
      case round =>
        obtain ⟨k, hk, rfl, HQ, HRk⟩ := hrel
        have d6 := HRk.out.1.c6
        have e6 := HRk.out.2.1.c6
        simp only [Nat.zero_add] at d6 e6
        have d7 := HRk.out.1.lt
        have e7 := HRk.out.2.1.lt
        by_cases hlt : k < r.n
        · have hki : (k : Int) < (r.n : Int) := by omega
          have HB2 := Lib.hid (HBW.out.trans (HRk.out.2.2.mono HBW.out.size))
          obtain ⟨⟨b, o, ha, hy1⟩, b', o', ha', hf1⟩ := HE.out wr HB2.out k hlt
          subst ha
          subst ha'
          obtain ⟨⟨xa, xc, hx⟩, ya, yc, hy⟩ := HSf.out k hlt
          have HM := Lib.hid (fun w' (h : Below wr.heap.size wr w') => HI.out k hlt w' (HB2.out.trans (h.mono HB2.out.size)))
          simp only [hx, hy] at HM
          obtain ⟨bb, hbb⟩ : ∃ bb, bb = sameE (r.args k) (r2.args k) := ⟨_, rfl⟩
          rw [← hbb] at HM
          have HBb := Lib.hid hbb
          have HSS := Lib.hid (show ∀ w', Below wr.heap.size wr w' → (w'.cell? ⟨g, 6, none⟩ = some (.slice (some ⟨b, o, none⟩) r.n c) ∧ w'.cell? ⟨g + 1, 6, none⟩ = some (.slice (some ⟨b', o', none⟩) r.n c2) ∧ w'.cell? ⟨b, o + k * 7, none⟩ = some (.int .u8 (r.args k).kind) ∧ w'.cell? ⟨b, o + k * 7 + 1, none⟩ = some (.string (r.args k).dep.name) ∧ w'.cell? ⟨b, o + k * 7 + 2, none⟩ = some (.int .u8 (r.args k).dep.op) ∧ w'.cell? ⟨b, o + k * 7 + 3, none⟩ = some (.int .i64 (r.args k).dep.ep) ∧ w'.cell? ⟨b, o + k * 7 + 4, none⟩ = some (.string (r.args k).dep.ver) ∧ w'.cell? ⟨b, o + k * 7 + 5, none⟩ = some (.string (r.args k).dep.rel) ∧ w'.cell? ⟨b, o + k * 7 + 6, none⟩ = some (.slice xa (r.args k).n xc) ∧ w'.cell? ⟨b', o' + k * 7, none⟩ = some (.int .u8 (r2.args k).kind) ∧ w'.cell? ⟨b', o' + k * 7 + 1, none⟩ = some (.string (r2.args k).dep.name) ∧ w'.cell? ⟨b', o' + k * 7 + 2, none⟩ = some (.int .u8 (r2.args k).dep.op) ∧ w'.cell? ⟨b', o' + k * 7 + 3, none⟩ = some (.int .i64 (r2.args k).dep.ep) ∧ w'.cell? ⟨b', o' + k * 7 + 4, none⟩ = some (.string (r2.args k).dep.ver) ∧ w'.cell? ⟨b', o' + k * 7 + 5, none⟩ = some (.string (r2.args k).dep.rel) ∧ w'.cell? ⟨b', o' + k * 7 + 6, none⟩ = some (.slice ya (r2.args k).n yc)) from fun w' h => by
            have q1 := (HRk.out.1.below h).c6
            have q2 := (HRk.out.2.1.below h).c6
            simp only [Nat.zero_add] at q1 q2
            obtain ⟨p0, p1, p2, p3, p4, p5, p6, _⟩ := hy1.below h
            obtain ⟨t0, t1, t2, t3, t4, t5, t6, _⟩ := hf1.below h
            rw [hx] at p6
            rw [hy] at t6
            exact ⟨q1, q2, p0, p1, p2, p3, p4, p5, p6, t0, t1, t2, t3, t4, t5, t6⟩)
          have HDr := Lib.hid (show Below wr.heap.size wr wr.drew from (Below.refl _ wr).drew)
          obtain ⟨y0, y1, y2, y3, y4, y5, y6, y7⟩ := hy1
          obtain ⟨f0, f1, f2, f3, f4, f5, f6, f7⟩ := hf1
          simp only [hx, hy] at y6 f6
          clear hbb
          go_upto_region 6 with fail
          go_region_held3 (fun w' => w'.cell? ⟨g, 6, none⟩ = some (.slice (some ⟨b, o, none⟩) r.n c) ∧ w'.cell? ⟨g + 1, 6, none⟩ = some (.slice (some ⟨b', o', none⟩) r.n c2) ∧ w'.cell? ⟨b, o + k * 7, none⟩ = some (.int .u8 (r.args k).kind) ∧ w'.cell? ⟨b, o + k * 7 + 1, none⟩ = some (.string (r.args k).dep.name) ∧ w'.cell? ⟨b, o + k * 7 + 2, none⟩ = some (.int .u8 (r.args k).dep.op) ∧ w'.cell? ⟨b, o + k * 7 + 3, none⟩ = some (.int .i64 (r.args k).dep.ep) ∧ w'.cell? ⟨b, o + k * 7 + 4, none⟩ = some (.string (r.args k).dep.ver) ∧ w'.cell? ⟨b, o + k * 7 + 5, none⟩ = some (.string (r.args k).dep.rel) ∧ w'.cell? ⟨b, o + k * 7 + 6, none⟩ = some (.slice xa (r.args k).n xc) ∧ w'.cell? ⟨b', o' + k * 7, none⟩ = some (.int .u8 (r2.args k).kind) ∧ w'.cell? ⟨b', o' + k * 7 + 1, none⟩ = some (.string (r2.args k).dep.name) ∧ w'.cell? ⟨b', o' + k * 7 + 2, none⟩ = some (.int .u8 (r2.args k).dep.op) ∧ w'.cell? ⟨b', o' + k * 7 + 3, none⟩ = some (.int .i64 (r2.args k).dep.ep) ∧ w'.cell? ⟨b', o' + k * 7 + 4, none⟩ = some (.string (r2.args k).dep.ver) ∧ w'.cell? ⟨b', o' + k * 7 + 5, none⟩ = some (.string (r2.args k).dep.rel) ∧ w'.cell? ⟨b', o' + k * 7 + 6, none⟩ = some (.slice ya (r2.args k).n yc)) (exact HSS.out _ HDr.out)
            ((first
              | (go_at_call 148; (with_reducible refine (HM.out _ HDr.out).mono ?_); rintro e w1 ⟨rfl, HBc⟩; have HDr := Lib.hid (below_t' HDr.out HBc); clear HBc)))
          have HRx := Lib.hid (show RichAt w1 g 0 r (.slice (some ⟨b, o, none⟩) r.n c) ∧ RichAt w1 (g + 1) 0 r2 (.slice (some ⟨b', o', none⟩) r.n c2) ∧ Below w.heap.size w w1 from ⟨HRk.out.1.below HDr.out, HRk.out.2.1.below HDr.out, below_t' HRk.out.2.2 HDr.out⟩)
          cases bb with
          | true =>
            go_wp2_with fail
            go_roundw
            case rel => exact ⟨k + 1, by omega, by go_num, Lib.hid (by simp only [allN]; rw [HQ.out, ← HBb.out]; rfl), HRx⟩
            case measure => simp [intOf]; omega
          | false =>
            have HT2 := Lib.hid (show T = false by rw [HTT.out]; exact allN_no r.n hlt HBb.out.symm)
            go_wp2_with fail
            go_ret
            exact ⟨ret_bool HT2.out.symm, HRx.out.2.2⟩
        · obtain rfl : k = r.n := by omega
          have HT2 := Lib.hid (show T = true by rw [HTT.out]; exact HQ.out)
          go_wp2_with fail
          go_ret
          exact ⟨ret_bool HT2.out.symm, HRk.out.2.2⟩
    · have h1 : ¬ (r.n : Int) = (r2.n : Int) := by omega
      have HTf := Lib.hid (show T = false by rw [HT.out]; exact same_n hnn)
      clear hT hA hA2 hS hS2 hs hs2 ih hB hn2 hnn hb2 HT
      unfold RichD.val richV
      go_enter Tryz.func148, Tryz.ntmps148
      go_upto_region 1 with fail
      rw [← hw2, ← hg]
      clear hw2 hg
      go_wp2_with fail
      all_goals
        go_ret
        exact ⟨ret_bool HTf.out.symm, HR0.out.2.2⟩
  induction r with
  | nil => exact fun s r2 s2 w h1 h2 h3 => step .nil s r2 s2 w h1 h2 h3 (fun j hj => absurd hj (Nat.not_lt_zero j))
  | node k d n f ih => exact fun s r2 s2 w h1 h2 h3 => step (.node k d n f) s r2 s2 w h1 h2 h3 (fun j _ => ih j)
end Go.Proofs.YtdpjjnbelgaagaaGreatDoor

namespace Go.Proofs.YtdpjjnbelgaagaaGreatDoor
open Go.ChangeShapes Go.WideShapes Go.ChangeAt Go.RowKit Go.Deep
set_option maxRecDepth 100000

/-- A slice's value holds a rich dependency's Args, all in blocks of which B holds, and which may be written. -/
inductive ArgsIn (B : Nat → Prop) (w : World) : RichD → Value → Prop
  | mk (r : RichD) (a : Option Addr) (c : Nat) (S : Nat → Value) (hd : fitR r.kind r.dep) (hn : r.n ≤ 9223372036854775807)
      (hA : ∀ j, j < r.n → ∃ b o, a = some ⟨b, o, none⟩ ∧ B b ∧ (∀ i, w.frozen? ⟨b, i, none⟩ = false) ∧ RichAt w b (o + j * 7) (r.args j) (S j))
      (hS : ∀ j, j < r.n → ArgsIn B w (r.args j) (S j)) : ArgsIn B w r (.slice a r.n c)
theorem ArgsIn.is {B : Nat → Prop} {w : World} {r : RichD} {s : Value} (h : ArgsIn B w r s) : IsArgs w r s := by
  induction h with
  | mk r a c S hd hn hA hS ih =>
    refine .mk r a c S hd hn (fun j hj => ?_) ih
    obtain ⟨b, o, h1, _, _, h2⟩ := hA j hj
    exact ⟨b, o, h1, h2⟩
theorem RichAt.same {w w' : World} {b o : Nat} {r : RichD} {s : Value} (h : RichAt w b o r s) (hb : w'.heap[b]? = w.heap[b]?) (hs : w.heap.size ≤ w'.heap.size) : RichAt w' b o r s := by
  have k : ∀ c, w'.cell? ⟨b, c, none⟩ = w.cell? ⟨b, c, none⟩ := fun c => World.cell?_of_block (w := w) hb
  exact ⟨(k _).trans h.c0, (k _).trans h.c1, (k _).trans h.c2, (k _).trans h.c3, (k _).trans h.c4, (k _).trans h.c5, (k _).trans h.c6, Nat.lt_of_lt_of_le h.lt hs⟩
theorem ArgsIn.keep {B B' : Nat → Prop} {w w' : World} {r : RichD} {s : Value} (h : ArgsIn B w r s) (hs : w.heap.size ≤ w'.heap.size) (hk : ∀ b, B b → b < w.heap.size → w'.heap[b]? = w.heap[b]? ∧ B' b) : ArgsIn B' w' r s := by
  induction h with
  | mk r a c S hd hn hA hS ih =>
    refine .mk r a c S hd hn (fun j hj => ?_) ih
    obtain ⟨b, o, h1, h2, h3, h4⟩ := hA j hj
    obtain ⟨h5, h6⟩ := hk b h2 h4.lt
    exact ⟨b, o, h1, h6, fun i => (World.frozen?_of_block (w := w) h5).trans (h3 i), h4.same h5 hs⟩
theorem ArgsIn.new_ {B : Nat → Prop} {w w' : World} {r : RichD} {s : Value} (h : ArgsIn B w r s) (hb : Below w.heap.size w w') : ArgsIn B w' r s :=
  h.keep hb.size fun b h1 h2 => ⟨hb.block b h2, h1⟩
theorem ArgsIn.one {B : Nat → Prop} {w : World} {r : RichD} {s : Value} (h : ArgsIn B w r s) : s.oneCell' = true := by
  cases h
  rfl
def richCs (r : RichD) (s : Value) : List Value := [.int .u8 r.kind, .string r.dep.name, .int .u8 r.dep.op, .int .i64 r.dep.ep, .string r.dep.ver, .string r.dep.rel, s]
def enR (f : Nat → RichD) (S : Nat → Value) (k : Nat) : List Value := catN (fun j => richCs (f j) (S j)) k
theorem enR_len (f : Nat → RichD) (S : Nat → Value) : ∀ k, (enR f S k).length = k * 7
  | 0 => rfl
  | k + 1 => by
    show (enR f S k ++ richCs (f k) (S k)).length = _
    rw [List.length_append, enR_len f S k]
    show k * 7 + 7 = (k + 1) * 7
    omega
theorem enR_at (f : Nat → RichD) (S : Nat → Value) : ∀ k j, j < k → ∀ i, i < 7 → (enR f S k)[j * 7 + i]? = (richCs (f j) (S j))[i]?
  | 0, _, h, _, _ => by omega
  | k + 1, j, h, i, hi => by
    show (enR f S k ++ richCs (f k) (S k))[j * 7 + i]? = _
    have hl := enR_len f S k
    by_cases e : j = k
    · subst e
      rw [List.getElem?_append_right (by omega), hl, Nat.add_sub_cancel_left]
    · rw [List.getElem?_append_left (by omega)]
      exact enR_at f S k j (by omega) i hi
theorem enR_one {f : Nat → RichD} {S : Nat → Value} : ∀ k, (∀ j, j < k → (S j).oneCell' = true) → ∀ u ∈ enR f S k, u.oneCell' = true
  | 0, _, u, h => by cases h
  | k + 1, hS, u, h => by
    rcases List.mem_append.1 (show u ∈ enR f S k ++ richCs (f k) (S k) from h) with h | h
    · exact enR_one k (fun j hj => hS j (by omega)) u h
    · simp only [richCs, List.mem_cons, List.not_mem_nil, or_false] at h
      rcases h with rfl | rfl | rfl | rfl | rfl | rfl | rfl
      all_goals first | rfl | exact hS k (by omega)
theorem enR_congr {f : Nat → RichD} {S S' : Nat → Value} (k : Nat) (h : ∀ j, j < k → S j = S' j) : enR f S k = enR f S' k :=
  cat_congr k fun j hj => by rw [h j hj]
/-- A copy's Args: in blocks of its own, from n0 on. -/
structure NewArgs (n0 : Nat) (w : World) (r : RichD) (s : Value) : Prop where
  hd : fitR r.kind r.dep
  hn : r.n ≤ 9223372036854775807
  ar : ∃ S, Own w 34 7 s r.n (enR r.args S r.n) ∧ (∀ k, s.ownBlock = some k → n0 ≤ k) ∧ ∀ j, j < r.n → ArgsIn (fun b => n0 ≤ b ∧ s.ownBlock ≠ some b) w (r.args j) (S j)
theorem Own.rich {w : World} {ao : Option Addr} {c n : Nat} {f : Nat → RichD} {S : Nat → Value} (h : Own w 34 7 (.slice ao n c) n (enR f S n)) (j : Nat) (hj : j < n) : ∃ b o, ao = some ⟨b, o, none⟩ ∧ (Value.slice ao n c).ownBlock = some b ∧ (∀ i, w.frozen? ⟨b, i, none⟩ = false) ∧ RichAt w b (o + j * 7) (f j) (S j) := by
  obtain ⟨ao', c', he, _, _, hc⟩ := h.form
  injection he with he _ _
  subst he
  obtain ⟨g, off, rfl, hcells, hf, hlt⟩ := hc (by omega)
  have k : ∀ i, i < 7 → w.cell? ⟨g, off + j * 7 + i, none⟩ = (richCs (f j) (S j))[i]? := fun i hi => by
    rw [Nat.add_assoc, hcells (j * 7 + i) (by rw [enR_len]; omega), enR_at f S n j hj i hi]
  exact ⟨g, off, rfl, rfl, hf, k 0 (by omega), k 1 (by omega), k 2 (by omega), k 3 (by omega), k 4 (by omega), k 5 (by omega), k 6 (by omega), hlt⟩
theorem NewArgs.in_ {n0 : Nat} {w : World} {r : RichD} {s : Value} (h : NewArgs n0 w r s) : ArgsIn (fun b => n0 ≤ b) w r s := by
  obtain ⟨hd, hn, S, hO, hi, hA⟩ := h
  obtain ⟨ao, c, rfl, _⟩ := hO.form
  refine .mk r ao c S hd hn (fun j hj => ?_) (fun j hj => (hA j hj).keep (Nat.le_refl _) fun b h1 _ => ⟨rfl, h1.1⟩)
  obtain ⟨b, o, h1, h2, h3, h4⟩ := hO.rich j hj
  exact ⟨b, o, h1, hi b h2, h3, h4⟩
theorem iRich : ∃ i, Tryz.prog.info? 34 = some i ∧ i.zero = some (.agg #[.int .u8 0, .string ⟨#[]⟩, .int .u8 0, .int .i64 0, .string ⟨#[]⟩, .string ⟨#[]⟩, .slice none 0 0]) ∧ i.size = 7 ∧ i.bytes = 96 :=
  info_parts (P := Tryz.prog) (e := 34) (z := .agg #[.int .u8 0, .string ⟨#[]⟩, .int .u8 0, .int .i64 0, .string ⟨#[]⟩, .string ⟨#[]⟩, .slice none 0 0]) (size := 7) (bytes := 96) (by kernel_rfl)
abbrev zeroR : Array Value := #[.int .u8 0, .string ⟨#[]⟩, .int .u8 0, .int .i64 0, .string ⟨#[]⟩, .string ⟨#[]⟩, .slice none 0 0]
/-- A copy under way: k Args are copied. -/
structure CpSt (w : World) (g : Nat) (r : RichD) (s : Value) (k : Nat) (S : Nat → Value) (v : Value) (W : World) : Prop where
  bl : Below w.heap.size w W
  ri : RichB W g r s
  rz : Blk W (g + 1) 34 zeroR
  ou : RichB W (g + 2) r v
  ow : Own W 34 7 v k (enR r.args S k)
  hi : ∀ b, v.ownBlock = some b → g + 3 ≤ b
  ar : ∀ j, j < k → ArgsIn (fun b => g + 3 ≤ b ∧ v.ownBlock ≠ some b) W (r.args j) (S j)
theorem CpSt.below {w W W' : World} {g : Nat} {r : RichD} {s : Value} {k : Nat} {S : Nat → Value} {v : Value} (h : CpSt w g r s k S v W) (hb : Below W.heap.size W W') : CpSt w g r s k S v W' :=
  ⟨h.bl.trans (hb.mono h.bl.size), h.ri.below hb, Blk.below h.rz hb h.rz.lt, h.ou.below hb, h.ow.new hb, h.hi, fun j hj => (h.ar j hj).new_ hb⟩
theorem CpSt.one {w W : World} {g : Nat} {r : RichD} {s : Value} {k : Nat} {S : Nat → Value} {v : Value} (h : CpSt w g r s k S v W) : ∀ u ∈ enR r.args S k, u.oneCell' = true := enR_one k fun j hj => (h.ar j hj).one
/-- Behind the append and the store of a further Arg. -/
theorem CpSt.put {w W W6 W' : World} {g : Nat} {r : RichD} {s : Value} {k : Nat} {S : Nat → Value} {v v' sk : Value} (h : CpSt w g r s k S v W) (hgw : w.heap.size ≤ g) (h6 : Below W.heap.size W W6) (hk : ArgsIn (fun b => W.heap.size ≤ b) W6 (r.args k) sk)
    (hO : Own W' 34 7 v' (k + 1) (enR r.args S k ++ richCs (r.args k) sk)) (o : Obj) (hg : (W6.alloc o).grownBy W' v.ownBlock) (hat : v'.ownBlock = v.ownBlock ∨ v'.ownBlock = some (W6.alloc o).heap.size) :
    CpSt w g r s (k + 1) (fun j => if j < k then S j else sk) v' (W'.setCell ⟨g + 2, 6, none⟩ v') ∧ RichB W' (g + 2) r v := by
  have h7 : CpSt w g r s k S v (W6.alloc o) := h.below (below_t' h6 (new_b _ _))
  have hz : (W6.alloc o).heap.size = W6.heap.size + 1 := by simp
  have hlv : ∀ b, v.ownBlock = some b → b < W.heap.size := h.ow.lt
  have hWz := h6.size
  have hkb : ∀ b, v.ownBlock ≠ some b → b < (W6.alloc o).heap.size → W'.heap[b]? = (W6.alloc o).heap[b]? := fun b h1 h2 => hg.block b h2 (fun e => h1 e.symm)
  have hne : ∀ b, b < g + 3 → v.ownBlock ≠ some b := fun b h1 h2 => by have := h.hi b h2; omega
  have hne' : ∀ b, b < g + 3 → v'.ownBlock ≠ some b := fun b h1 h2 => by
    rcases hat with e | e
    · exact hne b h1 (e ▸ h2)
    · rw [e] at h2
      injection h2 with h2
      have : g + 2 < (W6.alloc o).heap.size := h7.ou.lt
      omega
  have hou : RichB W' (g + 2) r v := Blk.keep h7.ou (hkb (g + 2) (hne (g + 2) (by omega)) h7.ou.lt)
  have hset : ∀ b, b ≠ g + 2 → (W'.setCell ⟨g + 2, 6, none⟩ v').heap[b]? = W'.heap[b]? := fun b h1 => Below.heap_setCell W' ⟨g + 2, 6, none⟩ v' b h1
  refine ⟨⟨?_, ?_, ?_, ?_, ?_, ?_, ?_⟩, hou⟩
  · have hb7 : Below w.heap.size (W6.alloc o) W' := ⟨hg.os, hg.tape, hg.output, hg.size, fun b h1 => hkb b (hne b (by omega)) (Nat.lt_of_lt_of_le h1 h7.bl.size)⟩
    exact (h7.bl.trans hb7).setCell (p := ⟨g + 2, 6, none⟩) (by show _ ≤ g + 2; omega) _
  · exact Blk.keep (Blk.keep h7.ri (hkb g (hne g (by omega)) h7.ri.lt)) (hset g (by omega))
  · exact Blk.keep (Blk.keep h7.rz (hkb (g + 1) (hne (g + 1) (by omega)) h7.rz.lt)) (hset (g + 1) (by omega))
  · exact Blk.set_ hou 6 v'
  · have hfar := hO.far (p := ⟨g + 2, 6, none⟩) (hne' (g + 2) (by omega)) v'
    have : enR r.args (fun j => if j < k then S j else sk) (k + 1) = enR r.args S k ++ richCs (r.args k) sk := by
      show enR r.args _ k ++ richCs (r.args k) (if k < k then S k else sk) = _
      rw [if_neg (by omega), enR_congr k (fun j hj => if_pos hj)]
    rw [this]
    exact hfar
  · intro b hb
    rcases hat with e | e
    · exact h.hi b (e ▸ hb)
    · rw [e] at hb
      injection hb with hb
      have : g + 2 < (W6.alloc o).heap.size := h7.ou.lt
      omega
  · intro j hj
    have hsz : (W6.alloc o).heap.size ≤ (W'.setCell ⟨g + 2, 6, none⟩ v').heap.size := by simpa using hg.size
    by_cases hjk : j < k
    · rw [if_pos hjk]
      refine (h.ar j hjk).keep (by omega) fun b ⟨h1, h2⟩ h3 => ⟨?_, h1, fun e => ?_⟩
      · rw [hset b (by omega), hkb b h2 (by omega), (Below.trans h6 ((new_b W6 o).mono hWz)).block b h3]
      · rcases hat with e2 | e2
        · exact h2 (e2 ▸ e)
        · rw [e2] at e
          injection e with e
          omega
    · obtain rfl : j = k := by omega
      rw [if_neg hjk]
      have hgW : g + 2 < W.heap.size := h.ou.lt
      refine hk.keep (by omega) fun b h1 h3 => ?_
      have hvb : v.ownBlock ≠ some b := fun e => by have := hlv b e; omega
      refine ⟨?_, by omega, fun e => ?_⟩
      · rw [hset b (by omega), hkb b hvb (by omega)]
        exact Below.heap_alloc W6 o b h3
      · rcases hat with e2 | e2
        · exact hvb (e2 ▸ e)
        · rw [e2] at e
          injection e with e
          omega
theorem CpSt.done {w W : World} {g : Nat} {r : RichD} {s : Value} {S : Nat → Value} {v : Value} (h : CpSt w g r s r.n S v W) (hgw : w.heap.size ≤ g) (hd : fitR r.kind r.dep) (hn : r.n ≤ 9223372036854775807) : NewArgs w.heap.size W r v :=
  ⟨hd, hn, S, h.ow, fun b hb => by have := h.hi b hb; omega, fun j hj => (h.ar j hj).keep (Nat.le_refl _) fun b h1 _ => ⟨rfl, by have := h1.1; omega, h1.2⟩⟩
end Go.Proofs.YtdpjjnbelgaagaaGreatDoor

namespace Go.Proofs.YtdpjjnbelgaagaaGreatDoor
open Go.ChangeShapes Go.WideShapes Go.ChangeAt Go.RowKit Go.Deep
set_option maxRecDepth 100000

section
variable {P : Program} (w : World)
theorem step_append_S {ops : Array Oper} {o : Oper} {a : Act} {K : Act → World → Prop} {Q : Exit → Act → World → Prop} {E : Prop} (hgd : o.guard = none) (s sx : Operand) (t tx : TypeId)
    (ho : o.op = .call { callee := .builtin .append, args := #[s, sx], argTypes := #[t, tx] })
    (e : TypeId) (i : TypeInfo) (z : Value) (size bytes : Nat) (ht : P.underlying t = some (.slice e)) (hi : P.info? e = some i) (hz : i.zero = some z)
    (hsize : i.size = size) (hby : i.bytes = bytes) (hzs : z.cells.size = size) (hsz : 0 < size)
    (v : Value) (n : Nat) (xs : List Value) (hv : a.eval s = v) (hown : Own w e size v n xs) (h0 : ∀ u ∈ xs, u.oneCell' = true)
    (x : Value) (m : Nat) (news : List Value) (hx : a.eval sx = x) (hs : Src P size tx x m news w)
    (h63 : n + m ≤ maxLen) (hbytes : (n + m) * bytes ≤ 140737488355328)
    (h : ∀ ao' cap' w', n + m ≤ cap' → cap' ≤ maxLen → Own w' e size (.slice ao' (n + m) cap') (n + m) (xs ++ news) → w.grownBy w' v.ownBlock → ((Value.slice ao' (n + m) cap').ownBlock = v.ownBlock ∨ (Value.slice ao' (n + m) cap').ownBlock = some w.heap.size) → (∀ k, (Value.slice ao' (n + m) cap').ownBlock = some k → k < w'.heap.size) → K (a.put o.dst (.slice ao' (n + m) cap')) w') :
    if Region.wanted o (yielded ops a.tmps) = true then Oper.wp P o a w K Q else E := by
  have hw : Region.wanted o (yielded ops a.tmps) = true := by simp [Region.wanted, hgd]
  rw [if_pos hw]
  exact wp_append_S w s sx t tx ho e i z size bytes ht hi hz hsize hby hzs hsz v n xs hv hown h0 x m news hx hs h63 hbytes h
end

theorem count_pos (r : RichD) : 1 ≤ r.count := by rw [count_eq]; omega
theorem n_lt (r : RichD) : r.n < r.count := by
  have h : ∀ n, n ≤ sumN (fun j => (r.args j).count) n := fun n => by
    induction n with
    | zero => exact Nat.le_refl _
    | succ n ih =>
      have := count_pos (r.args n)
      simp only [sumN]
      omega
  have := h r.n
  rw [count_eq]
  omega
theorem NewArgs.form {n0 : Nat} {w : World} {r : RichD} {s : Value} (h : NewArgs n0 w r s) : ∃ a c, s = .slice a r.n c := by
  obtain ⟨_, _, _, hO, _⟩ := h
  obtain ⟨ao, c, e, _⟩ := hO.form
  exact ⟨ao, c, e⟩
abbrev richA (r : RichD) (s : Value) : Array Value := #[.int .u8 r.kind, .string r.dep.name, .int .u8 r.dep.op, .int .i64 r.dep.ep, .string r.dep.ver, .string r.dep.rel, s]
theorem src_rich (w : World) (r : RichD) (s : Value) (hs : s.oneCell' = true) : Src Tryz.prog 7 26 (.slice (some ⟨w.heap.size, 0, none⟩) 1 1) 1 (richCs r s) (w.alloc (.cells (richA r s) 34)) :=
  (Own.made w 34 7 (richA r s) 1 rfl (by simp [maxLen])).src Tryz.underlying26 (fun u hu => enR_one (f := fun _ => r) (S := fun _ => s) 1 (fun _ _ => hs) u (by
    show u ∈ [] ++ richCs r s
    exact hu))
theorem cp_new (w : World) (r : RichD) (s : Value) (S : Nat → Value) : CpSt w w.heap.size r s 0 S (.slice none 0 0) (((w.alloc (.cells (richA r s) 34)).alloc (.cells zeroR 34)).alloc (.cells (richA r (.slice none 0 0)) 34)) := by
  refine ⟨below_t' (new_b _ _) (below_t' (new_b _ _) (new_b _ _)), ((RichB.new w r s).below (new_b _ _)).below (new_b _ _), ?_, ?_, Own.nil _ _ _, fun b h => by simp [Value.ownBlock] at h, fun j hj => absurd hj (Nat.not_lt_zero j)⟩
  · have h := Blk.new (w.alloc (.cells (richA r s) 34)) 34 zeroR
    rw [World.size_alloc] at h
    exact h.alloc _
  · have h := RichB.new ((w.alloc (.cells (richA r s) 34)).alloc (.cells zeroR 34)) r (.slice none 0 0)
    rwa [World.size_alloc, World.size_alloc] at h
/-- The result's cell is filled. -/
def fin7 (W : World) (b : Nat) (r : RichD) (v : Value) : World :=
  ((((((W.setCell ⟨b, 0, none⟩ (.int .u8 r.kind)).setCell ⟨b, 1, none⟩ (.string r.dep.name)).setCell ⟨b, 2, none⟩ (.int .u8 r.dep.op)).setCell ⟨b, 3, none⟩ (.int .i64 r.dep.ep)).setCell ⟨b, 4, none⟩ (.string r.dep.ver)).setCell ⟨b, 5, none⟩ (.string r.dep.rel)).setCell ⟨b, 6, none⟩ v
theorem fin7_far (W : World) (b : Nat) (r : RichD) (v : Value) (k : Nat) (hk : k ≠ b) : (fin7 W b r v).heap[k]? = W.heap[k]? := by
  unfold fin7
  have h := fun (W : World) (i : Nat) (u : Value) => Below.heap_setCell W ⟨b, i, none⟩ u k hk
  rw [h, h, h, h, h, h, h]
theorem fin7_size (W : World) (b : Nat) (r : RichD) (v : Value) : (fin7 W b r v).heap.size = W.heap.size := by
  unfold fin7
  simp
theorem fin7_below {w W : World} {b : Nat} (r : RichD) (v : Value) (h : Below w.heap.size w W) (hb : w.heap.size ≤ b) : Below w.heap.size w (fin7 W b r v) :=
  ((((((h.setCell (p := ⟨b, 0, none⟩) hb _).setCell (p := ⟨b, 1, none⟩) hb _).setCell (p := ⟨b, 2, none⟩) hb _).setCell (p := ⟨b, 3, none⟩) hb _).setCell (p := ⟨b, 4, none⟩) hb _).setCell (p := ⟨b, 5, none⟩) hb _).setCell (p := ⟨b, 6, none⟩) hb _
theorem fin7_blk {W : World} {b : Nat} (h : Blk W b 34 zeroR) (r : RichD) (v : Value) : Blk (fin7 W b r v) b 34 (richA r v) :=
  ((((((h.set_ 0 (.int .u8 r.kind)).set_ 1 (.string r.dep.name)).set_ 2 (.int .u8 r.dep.op)).set_ 3 (.int .i64 r.dep.ep)).set_ 4 (.string r.dep.ver)).set_ 5 (.string r.dep.rel)).set_ 6 v
theorem CpSt.fin {w W : World} {g : Nat} {r : RichD} {s : Value} {S : Nat → Value} {v : Value} (h : CpSt w g r s r.n S v W) (hgw : w.heap.size ≤ g) (hd : fitR r.kind r.dep) (hn : r.n ≤ 9223372036854775807) :
    Blk (fin7 W (g + 1) r v) (g + 1) 34 (richA r v) ∧ NewArgs w.heap.size (fin7 W (g + 1) r v) r v ∧ Below w.heap.size w (fin7 W (g + 1) r v) := by
  refine ⟨fin7_blk h.rz r v, ⟨hd, hn, S, ?_, fun b hb => by have := h.hi b hb; omega, fun j hj => (h.ar j hj).keep (by rw [fin7_size]; exact Nat.le_refl _) fun b h1 _ => ⟨?_, by have := h1.1; omega, h1.2⟩⟩, fin7_below r v h.bl (by omega)⟩
  · exact h.ow.keep fun k hk => fin7_far _ _ _ _ k (by have := h.hi k hk; omega)
  · exact fin7_far _ _ _ _ b (by have := h1.1; omega)
abbrev ldR (n : Nat) : Op := Op.load 26 (.tmp n)
set_option maxHeartbeats 4000000 in
theorem copy_any (W : World) (r : RichD) : ∀ (s : Value) (w : World), IsArgs W r s → Below W.heap.size W w → r.count ≤ 1048576 →
    Calls Tryz.prog 152 #[r.val s] w fun e w' => ∃ s', e = .returned (r.val s') ∧ NewArgs w.heap.size w' r s' ∧ Below w.heap.size w w' := by
  have step : ∀ (r : RichD) (s : Value) (w : World), IsArgs W r s → Below W.heap.size W w → r.count ≤ 1048576 →
      (∀ j, j < r.n → ∀ (s : Value) (w : World), IsArgs W (r.args j) s → Below W.heap.size W w → (r.args j).count ≤ 1048576 → Calls Tryz.prog 152 #[(r.args j).val s] w fun e w' => ∃ s', e = .returned ((r.args j).val s') ∧ NewArgs w.heap.size w' (r.args j) s' ∧ Below w.heap.size w w') →
      Calls Tryz.prog 152 #[r.val s] w fun e w' => ∃ s', e = .returned (r.val s') ∧ NewArgs w.heap.size w' r s' ∧ Below w.heap.size w w' := by
    intro r s w hs hB hc ih
    obtain ⟨a, c, rfl⟩ := hs.form
    obtain ⟨S, hA, hS⟩ := hs.elems2
    obtain ⟨g, hg⟩ : ∃ g, g = w.heap.size := ⟨_, rfl⟩
    have hn600 := n_lt r
    have HFit := Lib.hid (IsArgs.node_n hs)
    have HE := Lib.hid (show ∀ w', Below W.heap.size W w' → ∀ j, j < r.n → ∃ b o, a = some ⟨b, o, none⟩ ∧ RichAt w' b (o + j * 7) (r.args j) (S j) from fun w' h j hj => by
      obtain ⟨b, o, h1, h2⟩ := hA j hj
      exact ⟨b, o, h1, h2.below h⟩)
    have HI := Lib.hid (show ∀ j, j < r.n → ∀ w', Below W.heap.size W w' → Calls Tryz.prog 152 #[(r.args j).val (S j)] w' fun e w'' => ∃ s', e = .returned ((r.args j).val s') ∧ NewArgs w'.heap.size w'' (r.args j) s' ∧ Below w'.heap.size w' w'' from fun j hj w' h => ih j hj _ w' (hS j hj) h (by have := arg_count hj; omega))
    have HSf := Lib.hid (show ∀ j, j < r.n → ∃ a' c', S j = .slice a' (r.args j).n c' from fun j hj => (hS j hj).form)
    have HBW := Lib.hid hB
    have HG := Lib.hid hg
    clear hA hS hs ih hB
    unfold RichD.val richV
    go_enter Tryz.func152, Tryz.ntmps152
    go_upto_region 2 with fail
    obtain ⟨w3, hw3⟩ : ∃ w3, w3 = ((w.alloc (.cells (richA r (.slice a r.n c)) 34)).alloc (.cells zeroR 34)).alloc (.cells (richA r (.slice none 0 0)) 34) := ⟨_, rfl⟩
    have HC3 := Lib.hid (show CpSt w g r (.slice a r.n c) 0 (fun _ => .slice none 0 0) (.slice none 0 0) w3 from by rw [hw3, hg]; exact cp_new _ _ _ _)
    rw [← hw3, ← hg]
    clear hw3 hg
    have d6 : w3.cell? ⟨g, 6, none⟩ = some (.slice a r.n c) := HC3.out.ri.cell 6
    obtain ⟨iR, hiR, hz0, hz1, hz2⟩ := iRich
    go_wp2_with fail
    clear d6
    go_loopw [14] (fun i wr => ∃ (k : Nat) (Sx : Nat → Value) (ao : Option Addr) (cp : Nat), k ≤ r.n ∧ i = .int .i64 k ∧ Hid (CpSt w g r (.slice a r.n c) k Sx (.slice ao k cp) wr)) (fun i wr => r.n - (intOf i).toNat)
    case atStart => exact ⟨0, _, none, 0, by omega, rfl, HC3⟩
    case round =>
      obtain ⟨k, Sx, ao, cp, hk, rfl, HCk⟩ := hrel
      by_cases hlt : k < r.n
      · have hki : (k : Int) < (r.n : Int) := by omega
        have HB2 := Lib.hid (HBW.out.trans (HCk.out.bl.mono HBW.out.size))
        obtain ⟨b, o, ha, y0, y1, y2, y3, y4, y5, y6, y7⟩ := HE.out wr HB2.out k hlt
        subst ha
        obtain ⟨xa, xc, hx⟩ := HSf.out k hlt
        obtain ⟨gb, hgb⟩ : ∃ gb, gb = wr.heap.size := ⟨_, rfl⟩
        obtain ⟨w5, hw5⟩ : ∃ w5, w5 = wr.alloc (richObj (r.args k) (.slice xa (r.args k).n xc)) := ⟨_, rfl⟩
        have hb5 : Below wr.heap.size wr w5 := by rw [hw5]; exact new_b _ _
        have HC5 := Lib.hid (HCk.out.below hb5)
        have hr5 : RichB w5 gb (r.args k) (.slice xa (r.args k).n xc) := by rw [hw5, hgb]; exact RichB.new _ _ _
        have HM := Lib.hid (fun w' (h : Below w5.heap.size w5 w') => HI.out k hlt w' (HB2.out.trans ((below_t' hb5 h).mono HB2.out.size)))
        simp only [hx] at HM y6
        have HSS := Lib.hid (show ∀ w', Below w5.heap.size w5 w' → (w'.cell? ⟨gb, 0, none⟩ = some (.int .u8 (r.args k).kind) ∧ w'.cell? ⟨gb, 1, none⟩ = some (.string (r.args k).dep.name) ∧ w'.cell? ⟨gb, 2, none⟩ = some (.int .u8 (r.args k).dep.op) ∧ w'.cell? ⟨gb, 3, none⟩ = some (.int .i64 (r.args k).dep.ep) ∧ w'.cell? ⟨gb, 4, none⟩ = some (.string (r.args k).dep.ver) ∧ w'.cell? ⟨gb, 5, none⟩ = some (.string (r.args k).dep.rel) ∧ w'.cell? ⟨gb, 6, none⟩ = some (.slice xa (r.args k).n xc)) from fun w' h => by
          have h2 := hr5.below h
          exact ⟨h2.cell 0, h2.cell 1, h2.cell 2, h2.cell 3, h2.cell 4, h2.cell 5, h2.cell 6⟩)
        have HKp := Lib.hid (show ∀ (w6 w10 : World) (o : Obj) (v' : Value), Below w5.heap.size w5 w6 → (w6.alloc o).grownBy w10 (Value.slice ao k cp).ownBlock → (w10.cell? ⟨gb, 0, none⟩ = some (.int .u8 (r.args k).kind) ∧ w10.cell? ⟨gb, 1, none⟩ = some (.string (r.args k).dep.name) ∧ w10.cell? ⟨gb, 2, none⟩ = some (.int .u8 (r.args k).dep.op) ∧ w10.cell? ⟨gb, 3, none⟩ = some (.int .i64 (r.args k).dep.ep) ∧ w10.cell? ⟨gb, 4, none⟩ = some (.string (r.args k).dep.ver) ∧ w10.cell? ⟨gb, 5, none⟩ = some (.string (r.args k).dep.rel) ∧ w10.cell? ⟨gb, 6, none⟩ = some (.slice xa (r.args k).n xc)) ∧ ((w10.setCell ⟨g + 2, 6, none⟩ v').cell? ⟨gb, 0, none⟩ = some (.int .u8 (r.args k).kind) ∧ (w10.setCell ⟨g + 2, 6, none⟩ v').cell? ⟨gb, 1, none⟩ = some (.string (r.args k).dep.name) ∧ (w10.setCell ⟨g + 2, 6, none⟩ v').cell? ⟨gb, 2, none⟩ = some (.int .u8 (r.args k).dep.op) ∧ (w10.setCell ⟨g + 2, 6, none⟩ v').cell? ⟨gb, 3, none⟩ = some (.int .i64 (r.args k).dep.ep) ∧ (w10.setCell ⟨g + 2, 6, none⟩ v').cell? ⟨gb, 4, none⟩ = some (.string (r.args k).dep.ver) ∧ (w10.setCell ⟨g + 2, 6, none⟩ v').cell? ⟨gb, 5, none⟩ = some (.string (r.args k).dep.rel) ∧ (w10.setCell ⟨g + 2, 6, none⟩ v').cell? ⟨gb, 6, none⟩ = some (.slice xa (r.args k).n xc)) from fun w6 w10 o v' h6 hg6 => by
          have h7 := (hr5.below h6).below (new_b w6 o)
          have hne : (Value.slice ao k cp).ownBlock ≠ some gb := fun e => by have := HCk.out.ow.lt gb e; omega
          have h8 : RichB w10 gb (r.args k) (.slice xa (r.args k).n xc) := Blk.grown h7 hg6 (fun e => hne e.symm)
          have hg2 : g + 2 < wr.heap.size := HCk.out.ou.lt
          have h9 : RichB (w10.setCell ⟨g + 2, 6, none⟩ v') gb (r.args k) (.slice xa (r.args k).n xc) := Blk.far h8 (by show gb ≠ g + 2; omega) v'
          exact ⟨⟨h8.cell 0, h8.cell 1, h8.cell 2, h8.cell 3, h8.cell 4, h8.cell 5, h8.cell 6⟩, h9.cell 0, h9.cell 1, h9.cell 2, h9.cell 3, h9.cell 4, h9.cell 5, h9.cell 6⟩)
        have HOu := Lib.hid (show ∀ w', Below w5.heap.size w5 w' → w'.cell? ⟨g + 2, 6, none⟩ = some (.slice ao k cp) from fun w' h => (HC5.out.ou.below h).cell 6)
        have HOw := Lib.hid (show ∀ w', Below w5.heap.size w5 w' → Own w' 34 7 (.slice ao k cp) k (enR r.args Sx k) from fun w' h => HC5.out.ow.new h)
        have HOne := Lib.hid HC5.out.one
        have HDr := Lib.hid (show Below w5.heap.size w5 w5.drew from (Below.refl _ w5).drew)
        have q5 := HOu.out _ (Below.refl _ w5)
        have HWg := Lib.hid (show w.heap.size ≤ g by rw [HG.out]; exact Nat.le_refl _)
        go_upto_region 5 with fail
        rw [← hw5, ← hgb]
        clear hw5 hgb hb5 hr5 y0 y1 y2 y3 y4 y5 y6 y7
        rw [show Op.load 26 (Operand.tmp 18) = ldR 18 from rfl]
        go_region_held3 (fun w' => w'.cell? ⟨gb, 0, none⟩ = some (.int .u8 (r.args k).kind) ∧ w'.cell? ⟨gb, 1, none⟩ = some (.string (r.args k).dep.name) ∧ w'.cell? ⟨gb, 2, none⟩ = some (.int .u8 (r.args k).dep.op) ∧ w'.cell? ⟨gb, 3, none⟩ = some (.int .i64 (r.args k).dep.ep) ∧ w'.cell? ⟨gb, 4, none⟩ = some (.string (r.args k).dep.ver) ∧ w'.cell? ⟨gb, 5, none⟩ = some (.string (r.args k).dep.rel) ∧ w'.cell? ⟨gb, 6, none⟩ = some (.slice xa (r.args k).n xc)) (first | exact HSS.out _ HDr.out | exact HSS.out _ (below_t' HDr.out (new_b _ _)) | exact HS10.out.1 | exact HS10.out.2)
          ((first
            | (go_at_call 152; (with_reducible refine (HM.out _ HDr.out).mono ?_); rintro e w6 ⟨sk, rfl, hNk, HBc⟩; have HDr := Lib.hid (below_t' HDr.out HBc); obtain ⟨ak, ck, rfl⟩ := hNk.form; have HNk := Lib.hid (show ArgsIn (fun b => w5.heap.size ≤ b) w6 (r.args k) (.slice ak (r.args k).n ck) from hNk.in_); have q6 := HOu.out _ HDr.out; have q7 := HOu.out _ (below_t' HDr.out (new_b w6 (.cells (richA (r.args k) (.slice ak (r.args k).n ck)) 34))); clear hNk HBc)
            | (refine step_append_S _ (by rfl) (.tmp 19) (.tmp 22) _ _ (by rfl) 34 iR _ 7 96 Tryz.underlying26 hiR hz0 hz1 hz2 rfl (by omega) (.slice ao k cp) k (enR r.args Sx k) (by rfl) (HOw.out _ (below_t' HDr.out (new_b w6 (.cells (richA (r.args k) (.slice ak (r.args k).n ck)) 34)))) HOne.out (.slice (some ⟨w6.heap.size, 0, none⟩) 1 1) 1 (richCs (r.args k) (.slice ak (r.args k).n ck)) (by rfl) (src_rich w6 (r.args k) (.slice ak (r.args k).n ck) rfl) (by simp only [maxLen]; omega) (by omega) ?_; intro ao2 cap2 w10 hn2 hm2 hown2 hg2 hat2 hlt2; have HP := Lib.hid (HC5.out.put HWg.out HDr.out HNk.out hown2 (.cells (richA (r.args k) (.slice ak (r.args k).n ck)) 34) hg2 hat2); have HS10 := Lib.hid (HKp.out w6 w10 _ (.slice ao2 (k + 1) cap2) HDr.out hg2); have c10 := HP.out.2.cell 6; have f10 := HP.out.2.frozen 6; have l10 := HP.out.2.lt; clear hown2 hg2 hat2 hlt2 hn2 hm2)))
        all_goals
          go_wp2_with fail
          go_roundw
          case rel => exact ⟨k + 1, _, ao2, cap2, by omega, by go_num, Lib.hid HP.out.1⟩
          case measure => simp [intOf]; omega
      · obtain rfl : k = r.n := by omega
        have hou := HCk.out.ou
        have o0 := hou.cell 0
        have o1 := hou.cell 1
        have o2 := hou.cell 2
        have o3 := hou.cell 3
        have o4 := hou.cell 4
        have o5 := hou.cell 5
        have o6 := hou.cell 6
        have ol : g + 2 < wr.heap.size := hou.lt
        have hrz := HCk.out.rz
        have z0 := hrz.cell 0
        have z1 := hrz.cell 1
        have z2 := hrz.cell 2
        have z3 := hrz.cell 3
        have z4 := hrz.cell 4
        have z5 := hrz.cell 5
        have z6 := hrz.cell 6
        have f0 := hrz.frozen 0
        have f1 := hrz.frozen 1
        have f2 := hrz.frozen 2
        have f3 := hrz.frozen 3
        have f4 := hrz.frozen 4
        have f5 := hrz.frozen 5
        have f6 := hrz.frozen 6
        have zl := hrz.lt
        clear hou hrz
        go_wp2_with fail
        have hn6 : r.n ≤ 9223372036854775807 := by omega
        obtain ⟨h1, h2, h3⟩ := HCk.out.fin (by rw [HG.out]; exact Nat.le_refl _) HFit.out hn6
        exact bodyPost_ret (results_cell_row rfl _ _ (g + 1) 34 _ (0, 0) _ rfl h1 Tryz.underlying34 rfl (by kernel_rfl)) rfl ⟨_, rfl, h2, h3⟩
  induction r with
  | nil => exact fun s w h1 h2 h3 => step .nil s w h1 h2 h3 (fun j hj => absurd hj (Nat.not_lt_zero j))
  | node k d n f ih => exact fun s w h1 h2 h3 => step (.node k d n f) s w h1 h2 h3 (fun j _ => ih j)
end Go.Proofs.YtdpjjnbelgaagaaGreatDoor

namespace Go.Proofs.YtdpjjnbelgaagaaGreatDoor
open Go.ChangeShapes Go.WideShapes Go.ChangeAt Go.RowKit Go.Deep
set_option maxRecDepth 100000

set_option maxHeartbeats 4000000 in
theorem rcopy_any (W : World) (r : RichD) : ∀ (s : Value) (w : World), IsArgs W r s → Below W.heap.size W w → r.count ≤ 1048576 →
    Calls Tryz.prog 139 #[r.val s] w fun e w' => ∃ s', e = .returned (r.val s') ∧ NewArgs w.heap.size w' r s' ∧ Below w.heap.size w w' := by
  have step : ∀ (r : RichD) (s : Value) (w : World), IsArgs W r s → Below W.heap.size W w → r.count ≤ 1048576 →
      (∀ j, j < r.n → ∀ (s : Value) (w : World), IsArgs W (r.args j) s → Below W.heap.size W w → (r.args j).count ≤ 1048576 → Calls Tryz.prog 139 #[(r.args j).val s] w fun e w' => ∃ s', e = .returned ((r.args j).val s') ∧ NewArgs w.heap.size w' (r.args j) s' ∧ Below w.heap.size w w') →
      Calls Tryz.prog 139 #[r.val s] w fun e w' => ∃ s', e = .returned (r.val s') ∧ NewArgs w.heap.size w' r s' ∧ Below w.heap.size w w' := by
    intro r s w hs hB hc ih
    obtain ⟨a, c, rfl⟩ := hs.form
    obtain ⟨S, hA, hS⟩ := hs.elems2
    obtain ⟨g, hg⟩ : ∃ g, g = w.heap.size := ⟨_, rfl⟩
    have hn600 := n_lt r
    have HFit := Lib.hid (IsArgs.node_n hs)
    have HE := Lib.hid (show ∀ w', Below W.heap.size W w' → ∀ j, j < r.n → ∃ b o, a = some ⟨b, o, none⟩ ∧ b < W.heap.size ∧ RichAt w' b (o + j * 7) (r.args j) (S j) from fun w' h j hj => by
      obtain ⟨b, o, h1, h2⟩ := hA j hj
      exact ⟨b, o, h1, h2.lt, h2.below h⟩)
    have HI := Lib.hid (show ∀ j, j < r.n → ∀ w', Below W.heap.size W w' → Calls Tryz.prog 139 #[(r.args j).val (S j)] w' fun e w'' => ∃ s', e = .returned ((r.args j).val s') ∧ NewArgs w'.heap.size w'' (r.args j) s' ∧ Below w'.heap.size w' w'' from fun j hj w' h => ih j hj _ w' (hS j hj) h (by have := arg_count hj; omega))
    have HSf := Lib.hid (show ∀ j, j < r.n → ∃ a' c', S j = .slice a' (r.args j).n c' from fun j hj => (hS j hj).form)
    have HBW := Lib.hid hB
    have HG := Lib.hid hg
    clear hA hS hs ih hB
    unfold RichD.val richV
    go_enter Tryz.func139, Tryz.ntmps139
    go_upto_region 2 with fail
    obtain ⟨w3, hw3⟩ : ∃ w3, w3 = ((w.alloc (.cells (richA r (.slice a r.n c)) 34)).alloc (.cells zeroR 34)).alloc (.cells (richA r (.slice none 0 0)) 34) := ⟨_, rfl⟩
    have HC3 := Lib.hid (show CpSt w g r (.slice a r.n c) 0 (fun _ => .slice none 0 0) (.slice none 0 0) w3 from by rw [hw3, hg]; exact cp_new _ _ _ _)
    rw [← hw3, ← hg]
    clear hw3 hg
    have d6 : w3.cell? ⟨g, 6, none⟩ = some (.slice a r.n c) := HC3.out.ri.cell 6
    obtain ⟨iR, hiR, hz0, hz1, hz2⟩ := iRich
    go_wp2_with fail
    clear d6
    go_loopw [4] (fun i wr => ∃ (k : Nat) (Sx : Nat → Value) (ao : Option Addr) (cp : Nat), k ≤ r.n ∧ i = .int .i64 k ∧ Hid (CpSt w g r (.slice a r.n c) k Sx (.slice ao k cp) wr)) (fun i wr => r.n - (intOf i).toNat)
    case atStart => exact ⟨0, _, none, 0, by omega, rfl, HC3⟩
    case round =>
      obtain ⟨k, Sx, ao, cp, hk, rfl, HCk⟩ := hrel
      have d6 := HCk.out.ri.cell 6
      have dl := HCk.out.ri.lt
      by_cases hlt : k < r.n
      · have hki : (k : Int) < (r.n : Int) := by omega
        have HB2 := Lib.hid (HBW.out.trans (HCk.out.bl.mono HBW.out.size))
        obtain ⟨b, o, ha, hbW, hy⟩ := HE.out wr HB2.out k hlt
        subst ha
        obtain ⟨xa, xc, hx⟩ := HSf.out k hlt
        have HWg := Lib.hid (show w.heap.size ≤ g by rw [HG.out]; exact Nat.le_refl _)
        have hbg : b < g := by have := HWg.out; have := HBW.out.size; omega
        have HM := Lib.hid (fun w' (h : Below wr.heap.size wr w') => HI.out k hlt w' (HB2.out.trans (h.mono HB2.out.size)))
        rw [hx] at hy
        simp only [hx] at HM
        have HSS := Lib.hid (show ∀ w', Below wr.heap.size wr w' → (w'.cell? ⟨g, 6, none⟩ = some (.slice (some ⟨b, o, none⟩) r.n c) ∧ w'.cell? ⟨b, o + k * 7, none⟩ = some (.int .u8 (r.args k).kind) ∧ w'.cell? ⟨b, o + k * 7 + 1, none⟩ = some (.string (r.args k).dep.name) ∧ w'.cell? ⟨b, o + k * 7 + 2, none⟩ = some (.int .u8 (r.args k).dep.op) ∧ w'.cell? ⟨b, o + k * 7 + 3, none⟩ = some (.int .i64 (r.args k).dep.ep) ∧ w'.cell? ⟨b, o + k * 7 + 4, none⟩ = some (.string (r.args k).dep.ver) ∧ w'.cell? ⟨b, o + k * 7 + 5, none⟩ = some (.string (r.args k).dep.rel) ∧ w'.cell? ⟨b, o + k * 7 + 6, none⟩ = some (.slice xa (r.args k).n xc)) from fun w' h => by
          have h2 := hy.below h
          exact ⟨(HCk.out.ri.below h).cell 6, h2.c0, h2.c1, h2.c2, h2.c3, h2.c4, h2.c5, h2.c6⟩)
        have HKp := Lib.hid (show ∀ (w6 w10 : World) (ob : Obj) (v' : Value), Below wr.heap.size wr w6 → (w6.alloc ob).grownBy w10 (Value.slice ao k cp).ownBlock → (w10.cell? ⟨g, 6, none⟩ = some (.slice (some ⟨b, o, none⟩) r.n c) ∧ w10.cell? ⟨b, o + k * 7, none⟩ = some (.int .u8 (r.args k).kind) ∧ w10.cell? ⟨b, o + k * 7 + 1, none⟩ = some (.string (r.args k).dep.name) ∧ w10.cell? ⟨b, o + k * 7 + 2, none⟩ = some (.int .u8 (r.args k).dep.op) ∧ w10.cell? ⟨b, o + k * 7 + 3, none⟩ = some (.int .i64 (r.args k).dep.ep) ∧ w10.cell? ⟨b, o + k * 7 + 4, none⟩ = some (.string (r.args k).dep.ver) ∧ w10.cell? ⟨b, o + k * 7 + 5, none⟩ = some (.string (r.args k).dep.rel) ∧ w10.cell? ⟨b, o + k * 7 + 6, none⟩ = some (.slice xa (r.args k).n xc)) ∧ ((w10.setCell ⟨g + 2, 6, none⟩ v').cell? ⟨g, 6, none⟩ = some (.slice (some ⟨b, o, none⟩) r.n c) ∧ (w10.setCell ⟨g + 2, 6, none⟩ v').cell? ⟨b, o + k * 7, none⟩ = some (.int .u8 (r.args k).kind) ∧ (w10.setCell ⟨g + 2, 6, none⟩ v').cell? ⟨b, o + k * 7 + 1, none⟩ = some (.string (r.args k).dep.name) ∧ (w10.setCell ⟨g + 2, 6, none⟩ v').cell? ⟨b, o + k * 7 + 2, none⟩ = some (.int .u8 (r.args k).dep.op) ∧ (w10.setCell ⟨g + 2, 6, none⟩ v').cell? ⟨b, o + k * 7 + 3, none⟩ = some (.int .i64 (r.args k).dep.ep) ∧ (w10.setCell ⟨g + 2, 6, none⟩ v').cell? ⟨b, o + k * 7 + 4, none⟩ = some (.string (r.args k).dep.ver) ∧ (w10.setCell ⟨g + 2, 6, none⟩ v').cell? ⟨b, o + k * 7 + 5, none⟩ = some (.string (r.args k).dep.rel) ∧ (w10.setCell ⟨g + 2, 6, none⟩ v').cell? ⟨b, o + k * 7 + 6, none⟩ = some (.slice xa (r.args k).n xc)) from fun w6 w10 ob v' h6 hg6 => by
          have hb7 := below_t' h6 (new_b w6 ob)
          have h7 := hy.below hb7
          have h7g := HCk.out.ri.below hb7
          have hne : ∀ q, q < g + 3 → (Value.slice ao k cp).ownBlock ≠ some q := fun q hq e => by have := HCk.out.hi q e; omega
          have hlb : b < (w6.alloc ob).heap.size := h7.lt
          have h8 : RichAt w10 b (o + k * 7) (r.args k) (.slice xa (r.args k).n xc) := h7.same (hg6.block b hlb (fun e => hne b (by omega) e.symm)) hg6.size
          have h8g : RichB w10 g r (.slice (some ⟨b, o, none⟩) r.n c) := Blk.grown h7g hg6 (fun e => hne g (by omega) e.symm)
          have h9 : RichAt (w10.setCell ⟨g + 2, 6, none⟩ v') b (o + k * 7) (r.args k) (.slice xa (r.args k).n xc) := h8.same (Below.heap_setCell w10 ⟨g + 2, 6, none⟩ v' b (by show b ≠ g + 2; omega)) (by simp)
          have h9g : RichB (w10.setCell ⟨g + 2, 6, none⟩ v') g r (.slice (some ⟨b, o, none⟩) r.n c) := Blk.far h8g (by show g ≠ g + 2; omega) v'
          exact ⟨⟨h8g.cell 6, h8.c0, h8.c1, h8.c2, h8.c3, h8.c4, h8.c5, h8.c6⟩, h9g.cell 6, h9.c0, h9.c1, h9.c2, h9.c3, h9.c4, h9.c5, h9.c6⟩)
        have HOu := Lib.hid (show ∀ w', Below wr.heap.size wr w' → w'.cell? ⟨g + 2, 6, none⟩ = some (.slice ao k cp) from fun w' h => (HCk.out.ou.below h).cell 6)
        have HOw := Lib.hid (show ∀ w', Below wr.heap.size wr w' → Own w' 34 7 (.slice ao k cp) k (enR r.args Sx k) from fun w' h => HCk.out.ow.new h)
        have HOne := Lib.hid HCk.out.one
        have HDr := Lib.hid (show Below wr.heap.size wr wr.drew from (Below.refl _ wr).drew)
        have q5 := HOu.out _ (Below.refl _ wr)
        obtain ⟨d6, y0, y1, y2, y3, y4, y5, y6⟩ := HSS.out _ (Below.refl _ wr)
        clear hy
        go_upto_region 5 with fail
        clear y0 y1 y2 y3 y4 y5 y6
        rw [show Op.load 26 (Operand.tmp 17) = ldR 17 from rfl]
        go_region_held3 (fun w' => w'.cell? ⟨g, 6, none⟩ = some (.slice (some ⟨b, o, none⟩) r.n c) ∧ w'.cell? ⟨b, o + k * 7, none⟩ = some (.int .u8 (r.args k).kind) ∧ w'.cell? ⟨b, o + k * 7 + 1, none⟩ = some (.string (r.args k).dep.name) ∧ w'.cell? ⟨b, o + k * 7 + 2, none⟩ = some (.int .u8 (r.args k).dep.op) ∧ w'.cell? ⟨b, o + k * 7 + 3, none⟩ = some (.int .i64 (r.args k).dep.ep) ∧ w'.cell? ⟨b, o + k * 7 + 4, none⟩ = some (.string (r.args k).dep.ver) ∧ w'.cell? ⟨b, o + k * 7 + 5, none⟩ = some (.string (r.args k).dep.rel) ∧ w'.cell? ⟨b, o + k * 7 + 6, none⟩ = some (.slice xa (r.args k).n xc)) (first | exact HSS.out _ HDr.out | exact HSS.out _ (below_t' HDr.out (new_b _ _)) | exact HS10.out.1 | exact HS10.out.2)
          ((first
            | (go_at_call 139; (with_reducible refine (HM.out _ HDr.out).mono ?_); rintro e w6 ⟨sk, rfl, hNk, HBc⟩; have HDr := Lib.hid (below_t' HDr.out HBc); obtain ⟨ak, ck, rfl⟩ := hNk.form; have HNk := Lib.hid (show ArgsIn (fun b => wr.heap.size ≤ b) w6 (r.args k) (.slice ak (r.args k).n ck) from hNk.in_); have q6 := HOu.out _ HDr.out; have q7 := HOu.out _ (below_t' HDr.out (new_b w6 (.cells (richA (r.args k) (.slice ak (r.args k).n ck)) 34))); clear hNk HBc)
            | (refine step_append_S _ (by rfl) (.tmp 18) (.tmp 25) _ _ (by rfl) 34 iR _ 7 96 Tryz.underlying26 hiR hz0 hz1 hz2 rfl (by omega) (.slice ao k cp) k (enR r.args Sx k) (by rfl) (HOw.out _ (below_t' HDr.out (new_b w6 (.cells (richA (r.args k) (.slice ak (r.args k).n ck)) 34)))) HOne.out (.slice (some ⟨w6.heap.size, 0, none⟩) 1 1) 1 (richCs (r.args k) (.slice ak (r.args k).n ck)) (by rfl) (src_rich w6 (r.args k) (.slice ak (r.args k).n ck) rfl) (by simp only [maxLen]; omega) (by omega) ?_; intro ao2 cap2 w10 hn2 hm2 hown2 hg2 hat2 hlt2; have HP := Lib.hid (HCk.out.put HWg.out HDr.out HNk.out hown2 (.cells (richA (r.args k) (.slice ak (r.args k).n ck)) 34) hg2 hat2); have HS10 := Lib.hid (HKp.out w6 w10 _ (.slice ao2 (k + 1) cap2) HDr.out hg2); have c10 := HP.out.2.cell 6; have f10 := HP.out.2.frozen 6; have l10 := HP.out.2.lt; clear hown2 hg2 hat2 hlt2 hn2 hm2)))
        all_goals
          go_wp2_with fail
          go_roundw
          case rel => exact ⟨k + 1, _, ao2, cap2, by omega, by go_num, Lib.hid HP.out.1⟩
          case measure => simp [intOf]; omega
      · obtain rfl : k = r.n := by omega
        have hou := HCk.out.ou
        have o0 := hou.cell 0
        have o1 := hou.cell 1
        have o2 := hou.cell 2
        have o3 := hou.cell 3
        have o4 := hou.cell 4
        have o5 := hou.cell 5
        have o6 := hou.cell 6
        have ol : g + 2 < wr.heap.size := hou.lt
        have hrz := HCk.out.rz
        have z0 := hrz.cell 0
        have z1 := hrz.cell 1
        have z2 := hrz.cell 2
        have z3 := hrz.cell 3
        have z4 := hrz.cell 4
        have z5 := hrz.cell 5
        have z6 := hrz.cell 6
        have f0 := hrz.frozen 0
        have f1 := hrz.frozen 1
        have f2 := hrz.frozen 2
        have f3 := hrz.frozen 3
        have f4 := hrz.frozen 4
        have f5 := hrz.frozen 5
        have f6 := hrz.frozen 6
        have zl := hrz.lt
        clear hou hrz
        go_wp2_with fail
        have hn6 : r.n ≤ 9223372036854775807 := by omega
        obtain ⟨h1, h2, h3⟩ := HCk.out.fin (by rw [HG.out]; exact Nat.le_refl _) HFit.out hn6
        exact bodyPost_ret (results_cell_row rfl _ _ (g + 1) 34 _ (0, 0) _ rfl h1 Tryz.underlying34 rfl (by kernel_rfl)) rfl ⟨_, rfl, h2, h3⟩
  induction r with
  | nil => exact fun s w h1 h2 h3 => step .nil s w h1 h2 h3 (fun j hj => absurd hj (Nat.not_lt_zero j))
  | node k d n f ih => exact fun s w h1 h2 h3 => step (.node k d n f) s w h1 h2 h3 (fun j _ => ih j)
end Go.Proofs.YtdpjjnbelgaagaaGreatDoor

namespace Go.Proofs.YtdpjjnbelgaagaaGreatDoor
open Go.ChangeShapes Go.WideShapes Go.ChangeAt Go.RowKit Go.Deep
set_option maxRecDepth 100000

/-- Of any kind but an Atom: has it as many Args as it should, may it be there? -/
def okE (wh k : Int) (n : Nat) (al : Bool) : Bool :=
  if k = 2 ∨ k = 3 ∨ k = 6 then decide (2 ≤ n) else if k = 7 then decide (n = 2) else if k = 4 then (decide (n = 2) || decide (n = 3)) && (!al && decide (wh = 1)) else if k = 5 then (decide (n = 2) || decide (n = 3)) && (!al && decide (wh ≤ 2)) else false
def fitsE (wh : Int) : RichD → Bool → Bool
  | .nil, _ => false
  | .node k d n f, al => if k = 1 then decide (n = 0) && depE d else (okE wh k n al && d.none) && allN (fun j => fitsE wh (f j) (aloneE k al)) n
theorem key_ok {wh k : Int} {d : DepD} {n : Nat} {al : Bool} (h1 : 1 ≤ wh) (h3 : wh ≤ 3) (hn : n ≤ 24) (hk : k ≠ 1) : keyE wh (k, d, n, al) = (okE wh k n al && d.none) := by
  rw [Bool.eq_iff_iff, keyE_iff, if_neg hk, Bool.and_eq_true]
  simp only
  unfold okE askE
  rw [if_neg hk]
  generalize d.none = dn
  by_cases k2 : k = 2
  · subst k2; cases dn <;> simp <;> omega
  by_cases k3 : k = 3
  · subst k3; cases dn <;> simp <;> omega
  by_cases k4 : k = 4
  · subst k4; cases dn <;> cases al <;> simp <;> omega
  by_cases k5 : k = 5
  · subst k5; cases dn <;> cases al <;> simp <;> omega
  by_cases k6 : k = 6
  · subst k6; cases dn <;> simp <;> omega
  by_cases k7 : k = 7
  · subst k7; cases dn <;> simp <;> omega
  simp [k2, k3, k4, k5, k6, k7]
  omega
theorem key_atom {wh : Int} {d : DepD} {n : Nat} {al : Bool} (h3 : wh ≤ 3) : keyE wh (1, d, n, al) = (decide (n = 0) && depE d) := by
  rw [Bool.eq_iff_iff, keyE_iff, if_pos rfl, Bool.and_eq_true, decide_eq_true_eq]
  show wh ≤ 3 ∧ (al = true → true = true) ∧ (0 : Int) ≤ (n : Int) ∧ (n : Int) ≤ 0 ∧ _ ↔ _
  constructor
  · rintro ⟨_, _, _, h, h5⟩
    exact ⟨by omega, h5⟩
  · rintro ⟨h, h5⟩
    exact ⟨h3, fun _ => rfl, by omega, by omega, h5⟩
theorem fits_parts {wh : Int} (h1 : 1 ≤ wh) (h3 : wh ≤ 3) : (r : RichD) → (al : Bool) → r.count ≤ 24 → fitsE wh r al = (r.parts al).all (keyE wh)
  | .nil, al, _ => by
    show false = (keyE wh (0, noDep, 0, al) && true)
    rw [Bool.and_true, key_ok h1 h3 (by omega) (by omega)]
    rfl
  | .node k d n f, al, hc => by
    have hn := n_lt (.node k d n f)
    have ih : ∀ al', ∀ j, j < n → fitsE wh (f j) al' = ((f j).parts al').all (keyE wh) := fun al' j hj => fits_parts h1 h3 (f j) al' (by have := arg_count (r := .node k d n f) hj; simp only [RichD.args] at this; omega)
    simp only [RichD.n] at hn
    show (if k = 1 then decide (n = 0) && depE d else (okE wh k n al && d.none) && allN (fun j => fitsE wh (f j) (aloneE k al)) n) = (keyE wh (k, d, n, al) && (catN (fun j => (f j).parts (aloneE k al)) n).all (keyE wh))
    by_cases hk : k = 1
    · subst hk
      rw [if_pos (show (1 : Int) = 1 from rfl), key_atom h3]
      by_cases h0 : n = 0
      · subst h0
        show _ = ((_ && depE d) && true)
        rw [Bool.and_true]
      · rw [decide_eq_false h0, Bool.false_and, Bool.false_and]
    · rw [if_neg hk, key_ok h1 h3 (by omega) hk]
      refine congrArg ((okE wh k n al && d.none) && ·) ?_
      rw [Bool.eq_iff_iff, allN_iff, all_cat]
      exact ⟨fun h j hj => by rw [← ih _ j hj]; exact h j hj, fun h j hj => by rw [ih _ j hj]; exact h j hj⟩
end Go.Proofs.YtdpjjnbelgaagaaGreatDoor

namespace Go.Proofs.YtdpjjnbelgaagaaGreatDoor
open Go.ChangeShapes Go.WideShapes Go.ChangeAt Go.RowKit
set_option maxRecDepth 100000

def numL (n : Nat) : List UInt8 := if n < 128 then [UInt8.ofNat n] else UInt8.ofNat (n % 128 + 128) :: numL (n / 128)
termination_by n
decreasing_by omega
def bc (l : List UInt8) : List Value := l.map fun b => Value.int .u8 (b.toNat : Int)
theorem bc_len (l : List UInt8) : (bc l).length = l.length := by simp [bc]
theorem bc_app (a b : List UInt8) : bc (a ++ b) = bc a ++ bc b := by simp [bc]
theorem bc_one (l : List UInt8) : ∀ u ∈ bc l, u.oneCell' = true := by
  intro u hu
  obtain ⟨b, _, rfl⟩ := List.mem_map.1 hu
  rfl
theorem bc_get (l : List UInt8) (j : Nat) (h : j < l.length) : (bc l)[j]? = some (.int .u8 (l[j].toNat : Int)) := by simp [bc, h]
theorem numL_small (n : Nat) (h : n < 128) : numL n = [UInt8.ofNat n] := by rw [numL, if_pos h]
theorem numL_big (n : Nat) (h : 128 ≤ n) : numL n = UInt8.ofNat (n % 128 + 128) :: numL (n / 128) := by rw [numL, if_neg (by omega)]
theorem numL_pos (n : Nat) : 1 ≤ (numL n).length := by rw [numL]; split <;> simp
theorem numL_le (k : Nat) : ∀ n : Nat, n < 128 ^ (k + 1) → (numL n).length ≤ k + 1 := by
  induction k with
  | zero => intro n h; rw [numL_small n (by simpa using h)]; simp
  | succ k ih =>
    intro n h
    by_cases hs : n < 128
    · rw [numL_small n hs]; simp
    · rw [numL_big n (by omega)]
      have := ih (n / 128) (by rw [Nat.div_lt_iff_lt_mul (by omega)]; rw [Nat.pow_succ] at h; exact h)
      simp only [List.length_cons]
      omega
theorem numL_9 (n : Nat) (h : n < 9223372036854775808) : (numL n).length ≤ 9 := numL_le 8 n (by omega)
theorem Tryinfo5 : (Tryz.prog.info? 5).map (fun i => (i.zero, i.size, i.bytes)) = some (some (.int .u8 0), 1, 1) := by kernel_rfl
theorem or128 : ∀ k : Nat, k < 256 → k ||| 128 = k % 128 + 128 := by decide +kernel
theorem byte_or (m : Nat) : bits BinOp.or IntKind.u8 ((m : Int) % 256) 128 = ((UInt8.ofNat (m % 128 + 128)).toNat : Int) := by
  have h : ((m : Int) % 256) = ((m % 256 : Nat) : Int) := by omega
  rw [h, show (128 : Int) = ((128 : Nat) : Int) from rfl, u8_or_nat (m % 256) 128 (by omega) (by omega), or128 _ (by omega)]
  simp
  omega
theorem byte_small (m : Nat) (h : m < 128) : (m : Int) = ((UInt8.ofNat m).toNat : Int) := by
  simp
  omega
set_option maxRecDepth 100000 in
theorem number_any (n : Nat) (w : World) (hn : n ≤ 9223372036854775807) : Calls Tryz.prog 156 #[.int .i64 n] w fun e w' => ∃ v, e = .returned v ∧ Own w' 5 1 v (numL n).length (bc (numL n)) ∧ Below w.heap.size w w' ∧ (∀ k, v.ownBlock = some k → w.heap.size ≤ k ∧ k < w'.heap.size) := by
  obtain ⟨i5, hi, hz0, hz1, hz2⟩ := info_parts Tryinfo5
  go_enter Tryz.func156, Tryz.ntmps156
  go_wp2
  go_loopw [0, 3] (fun x v wr => ∃ (m : Nat) (acc : List UInt8), x = .int .i64 m ∧ m ≤ n ∧ Own wr 5 1 v acc.length (bc acc) ∧ acc ++ numL m = numL n ∧ Below w.heap.size w wr ∧ (∀ k, v.ownBlock = some k → w.heap.size ≤ k ∧ k < wr.heap.size)) (fun x _ _ => (intOf x).toNat)
  case atStart => exact ⟨n, [], rfl, Nat.le_refl _, Own.nil _ _ _, rfl, Below.refl _ _, fun k hk => by simp [Value.ownBlock] at hk⟩
  case round =>
    obtain ⟨m, acc, rfl, hm, hown, hacc, hb, hv⟩ := hrel
    have hlen : acc.length + 1 ≤ 9 := by
      have h9 := numL_9 n (by omega)
      rw [← hacc, List.length_append] at h9
      have := numL_pos m
      omega
    have HA := Lib.hid hacc
    clear hacc
    by_cases hlt : 128 ≤ m
    · go_wp2_with (at_builtin; refine wpList_append_O _ rfl (.tmp 6) (.tmp 10) _ _ rfl 5 i5 _ 1 1 Tryz.underlying74 hi hz0 hz1 hz2 rfl (by omega) u3 _ _ rfl (hown.alloc _) (bc_one _) _ 1 [_] rfl (src_new wr Tryz.underlying74 5 _ rfl) (by simp only [maxLen]; omega) (by omega) ?_; intro v1 w1 hown1 hg1 hat1 hlt1)
      go_roundw
      case rel =>
        refine ⟨m / 128, acc ++ [UInt8.ofNat (m % 128 + 128)], by go_num, by omega, ?_, ?_, ?_, ?_⟩
        · rw [byte_or] at hown1
          rw [bc_app, List.length_append]
          exact hown1
        · rw [← HA.out, numL_big m hlt]
          simp
        · exact (hb.alloc hb.size _).grown hg1 (by have := hb.size; simp; omega) (fun k hk => (hv k hk).1)
        · exact at_append hv hat1 (by have := hb.size; simp; omega) hlt1
      case measure => simp [intOf]; omega
    · go_wp2_with (at_builtin; refine wpList_append_O _ rfl (.tmp 14) (.tmp 17) _ _ rfl 5 i5 _ 1 1 Tryz.underlying74 hi hz0 hz1 hz2 rfl (by omega) u3 _ _ rfl (hown.alloc _) (bc_one _) _ 1 [_] rfl (src_new wr Tryz.underlying74 5 _ rfl) (by simp only [maxLen]; omega) (by omega) ?_; intro v1 w1 hown1 hg1 hat1 hlt1)
      go_ret
      rw [byte_small m (by omega)] at hown1
      refine ⟨v1, rfl, ?_, ?_, ?_⟩
      · rw [← HA.out, numL_small m (by omega), bc_app, List.length_append]
        exact hown1
      · exact (hb.alloc hb.size _).grown hg1 (by have := hb.size; simp; omega) (fun k hk => (hv k hk).1)
      · exact at_append hv hat1 (by have := hb.size; simp; omega) hlt1
end Go.Proofs.YtdpjjnbelgaagaaGreatDoor

namespace Go.Proofs.YtdpjjnbelgaagaaGreatDoor
open Go.ChangeShapes Go.WideShapes Go.ChangeAt Go.RowKit
set_option maxRecDepth 100000

abbrev Part := Value × List UInt8
def catB (ps : List Part) (k : Nat) : List UInt8 := (ps.take k).flatMap (·.2)
theorem catB_succ (ps : List Part) (k : Nat) (h : k < ps.length) : catB ps (k + 1) = catB ps k ++ ps[k].2 := by
  unfold catB
  rw [List.take_succ_eq_append_getElem h, List.flatMap_append]
  simp
theorem catB_mono (ps : List Part) (k m : Nat) (h : k ≤ m) : (catB ps k).length ≤ (catB ps m).length := by
  unfold catB
  have : ps.take k = (ps.take m).take k := by rw [List.take_take, Nat.min_eq_left h]
  rw [this]
  conv => rhs; rw [← List.take_append_drop k (ps.take m), List.flatMap_append]
  simp
theorem part_cell {w : World} {bL : Nat} {ps : List Part} {Pb : Nat → Prop} (hbL : Blk w bL 74 (ps.map Prod.fst).toArray) (hps : ∀ p ∈ ps, Rd w Pb p.1 p.2.length (bc p.2)) (k : Nat) (h : k < ps.length) :
    ∃ ao cap, ps[k].1 = .slice ao ps[k].2.length cap ∧ w.cell? ⟨bL, k, none⟩ = some (.slice ao ps[k].2.length cap) := by
  obtain ⟨_, ao, cap, hv, _⟩ := hps ps[k] (List.getElem_mem _)
  refine ⟨ao, cap, hv, ?_⟩
  rw [hbL.cell, ← hv]
  simp [h]
theorem put_no (w : World) (g bL : Nat) (ps : List Part) (bs : List UInt8) (v : Value) (hW : Blk w g 108 #[v]) (hO : Own w 5 1 v bs.length (bc bs)) (hbL : Blk w bL 74 (ps.map Prod.fst).toArray)
    (Pb : Nat → Prop) (hps : ∀ p ∈ ps, Rd w Pb p.1 p.2.length (bc p.2)) (hlen : bs.length ≤ 4194304) (hn : ps.length ≤ 2) (hsm : ∀ p ∈ ps, p.2.length ≤ 140737488351232) (hno : 4194304 < bs.length + (catB ps ps.length).length) :
    Calls Tryz.prog 155 #[.pointer (some ⟨g, 0, none⟩), .slice (some ⟨bL, 0, none⟩) ps.length ps.length] w fun e w' => e = .returned (.int .i64 40) ∧ w = w' := by
  obtain ⟨ao, cap, rfl, hnc, hcm, hform⟩ := hO.form
  have hc := hW.cell 0
  simp at hc
  go_enter Tryz.func155, Tryz.ntmps155
  go_wp2_with fail
  go_loop [5, 17] (fun x i => ∃ k : Nat, k ≤ ps.length ∧ i = .int .i64 k ∧ x = .int .i64 ((bs.length + (catB ps k).length : Nat) : Int) ∧ bs.length + (catB ps k).length ≤ 4194304) (fun _ i => ps.length - (intOf i).toNat)
  case atStart => exact ⟨0, by omega, rfl, by simp [catB], by simpa [catB] using hlen⟩
  case round =>
    obtain ⟨k, hk, rfl, rfl, hs⟩ := hrel
    by_cases hlt : k < ps.length
    · obtain ⟨ao1, cap1, hv1, hc1⟩ := part_cell hbL hps k hlt
      have hsm1 := hsm ps[k] (List.getElem_mem _)
      have hsucc := catB_succ ps k hlt
      have hl1 : (catB ps (k + 1)).length = (catB ps k).length + ps[k].2.length := by rw [hsucc, List.length_append]
      have HL := Lib.hid hl1
      clear hsucc hl1 hv1
      generalize ps[k].2.length = m at *
      generalize (catB ps k).length = q at *
      by_cases hfit : m ≤ 4194304 - (bs.length + q)
      · go_wp2
        go_round
        case rel => exact ⟨k + 1, by omega, by go_num, by rw [HL.out]; go_num, by rw [HL.out]; omega⟩
        case measure => simp [intOf]; omega
      · go_wp2
        go_ret
        exact ⟨rfl, rfl⟩
    · obtain rfl : k = ps.length := by omega
      omega
end Go.Proofs.YtdpjjnbelgaagaaGreatDoor

namespace Go.Proofs.YtdpjjnbelgaagaaGreatDoor
open Go.ChangeShapes Go.WideShapes Go.ChangeAt Go.RowKit
set_option maxRecDepth 100000

/-- Which blocks a writer at g, whose bytes lie in v, may have turned. -/
def WF (g : Nat) (v : Value) (k : Nat) : Prop := k = g ∨ v.ownBlock = some k
theorem put_ok (w : World) (H g bL : Nat) (ps : List Part) (bs : List UInt8) (v : Value) (hW : Blk w g 108 #[v]) (hO : Own w 5 1 v bs.length (bc bs)) (hbL : Blk w bL 74 (ps.map Prod.fst).toArray)
    (hgH : g < H) (hvH : ∀ k, v.ownBlock = some k → k < H) (hps : ∀ p ∈ ps, Rd w (fun k => H ≤ k ∧ k < w.heap.size) p.1 p.2.length (bc p.2)) (_hH : H ≤ w.heap.size) (hlen : bs.length ≤ 4194304) (hn : ps.length ≤ 2) (hyes : bs.length + (catB ps ps.length).length ≤ 4194304) :
    Calls Tryz.prog 155 #[.pointer (some ⟨g, 0, none⟩), .slice (some ⟨bL, 0, none⟩) ps.length ps.length] w fun e w' => e = .returned (.int .i64 0) ∧ ∃ v', Blk w' g 108 #[v'] ∧
      Own w' 5 1 v' (bs ++ catB ps ps.length).length (bc (bs ++ catB ps ps.length)) ∧ Touch (WF g v) w w' ∧ ∀ k, v'.ownBlock = some k → v.ownBlock = some k ∨ w.heap.size ≤ k := by
  obtain ⟨i5, hi, hz0, hz1, hz2⟩ := info_parts Tryinfo5
  obtain ⟨ao, cap, hv, hnc, hcm, hform⟩ := hO.form
  have hc := hW.cell 0
  simp [hv] at hc
  have hbne : bL ≠ g := hbL.ne_ hW (by decide)
  have hvb : v.ownBlock ≠ some bL := hO.ne_blk hbL (by decide)
  have hvg : v.ownBlock ≠ some g := hO.ne_blk hW (by decide)
  have hbw := hbL.lt
  have HV := Lib.hid hv
  have HB := Lib.hid hvb
  have HG := Lib.hid hvg
  clear hv hvb hvg
  go_enter Tryz.func155, Tryz.ntmps155
  go_wp2_with fail
  go_loop [5, 17] (fun x i => ∃ k : Nat, k ≤ ps.length ∧ i = .int .i64 k ∧ x = .int .i64 ((bs.length + (catB ps k).length : Nat) : Int)) (fun _ i => ps.length - (intOf i).toNat)
  case atStart => exact ⟨0, by omega, rfl, by simp [catB]⟩
  case round =>
    obtain ⟨k, hk, rfl, rfl⟩ := hrel
    by_cases hlt : k < ps.length
    · obtain ⟨ao1, cap1, hv1, hc1⟩ := part_cell hbL hps k hlt
      have hsucc := catB_succ ps k hlt
      have hl1 : (catB ps (k + 1)).length = (catB ps k).length + ps[k].2.length := by rw [hsucc, List.length_append]
      have hmo := catB_mono ps (k + 1) ps.length (by omega)
      have HL := Lib.hid hl1
      have hfit : ps[k].2.length ≤ 4194304 - (bs.length + (catB ps k).length) := by omega
      have hq : bs.length + (catB ps k).length ≤ 4194304 := by omega
      clear hsucc hl1 hv1
      generalize ps[k].2.length = m at *
      generalize (catB ps k).length = q at *
      go_wp2
      go_round
      case rel => exact ⟨k + 1, by omega, by go_num, by rw [HL.out]; go_num⟩
      case measure => simp [intOf]; omega
    · obtain rfl : k = ps.length := by omega
      go_wp2_with fail
      go_loopw [33] (fun i wr => ∃ (k : Nat) (u : Value) (cur : List UInt8), k ≤ ps.length ∧ i = .int .i64 k ∧ Blk wr g 108 #[u] ∧ Own wr 5 1 u cur.length (bc cur) ∧ cur = bs ++ catB ps k ∧ Touch (WF g v) w wr ∧ ∀ k, u.ownBlock = some k → v.ownBlock = some k ∨ w.heap.size ≤ k) (fun i _ => ps.length - (intOf i).toNat)
      case atStart => exact ⟨0, v, bs, by omega, rfl, hW, hO, by simp [catB], Touch.refl _ _, fun k hk => .inl hk⟩
      case round =>
        obtain ⟨k, u, cur, hk, rfl, hW2, hO2, hcur, hT, hu⟩ := hrel
        by_cases hlt : k < ps.length
        · have hbL2 : Blk wr bL 74 (ps.map Prod.fst).toArray := hbL.touch hT (by rintro (h | h); exact hbne h; exact HB.out h)
          have hps2 : ∀ p ∈ ps, Rd wr (fun k => H ≤ k ∧ k < w.heap.size) p.1 p.2.length (bc p.2) := fun p hp => (hps p hp).touch hT (by
            rintro q ⟨hq1, hq2⟩ (h | h)
            · omega
            · have := hvH q h; omega)
          obtain ⟨ao1, cap1, hv1, hc1⟩ := part_cell hbL2 hps2 k hlt
          have hS := (hps2 ps[k] (List.getElem_mem _)).src (P := Tryz.prog) Tryz.underlying74 (bc_one _)
          rw [hv1] at hS
          have hsucc := catB_succ ps k hlt
          have hmo := catB_mono ps (k + 1) ps.length (by omega)
          have hl2 : cur.length + ps[k].2.length ≤ 4194304 := by rw [hcur, List.length_append]; rw [hsucc, List.length_append] at hmo; omega
          have hcu := hW2.cell 0
          have hfu := hW2.frozen 0
          have hug : u.ownBlock ≠ some g := hO2.ne_blk hW2 (by decide)
          obtain ⟨au, cu, rfl, _, _, _⟩ := hO2.form
          simp at hcu
          have HC : Hid (cur ++ ps[k].2 = bs ++ catB ps (k + 1)) := by rw [hsucc, hcur, List.append_assoc]; rfl
          have HT := Lib.hid hT
          have HU := Lib.hid hug
          have HX := Lib.hid hu
          clear hsucc hv1 hT hbL2 hps2 hcur hug hmo hu
          generalize ps[k].2 = pk at *
          go_wp2_with (at_builtin; refine wpList_append_S _ rfl (.tmp 41) (.tmp 42) _ _ rfl 5 i5 _ 1 1 Tryz.underlying74 hi hz0 hz1 hz2 rfl (by omega) (.slice au cur.length cu) _ _ rfl hO2 (bc_one _) _ _ _ rfl hS (by simp only [maxLen]; omega) (by omega) ?_; intro ao2 cap2 w1 hn1 hm1 hown1 hg1 hat1 hlt1; have hWn := hW2.grown hg1 (Ne.symm HU.out); have hcn := hWn.cell 0; simp at hcn; have hfn := hWn.frozen 0)
          go_roundw
          case rel =>
            refine ⟨k + 1, _, cur ++ pk, by omega, by go_num, hWn.set_ 0 _, ?_, HC.out, ?_, ?_⟩
            · rw [List.length_append, bc_app]
              exact hown1.far (p := ⟨g, 0, none⟩) (hown1.ne_blk hWn (by decide)) _
            · refine (HT.out.trans (Touch.of_grown (F := fun j => (Value.slice au cur.length cu).ownBlock = some j) hg1 (fun j hj => hj)) fun x hx hj => ?_).setCell (p := ⟨g, 0, none⟩) (fun _ => .inl rfl) _
              rcases HX.out x hj with h | h
              · exact .inr h
              · omega
            · intro j hj
              rcases hat1 with h | h
              · exact HX.out j (h ▸ hj)
              · rw [h] at hj
                injection hj with hj
                have := HT.out.size
                exact .inr (by omega)
          case measure => simp [intOf]; omega
        · obtain rfl : k = ps.length := by omega
          go_wp2_with fail
          go_ret
          subst hcur
          exact ⟨rfl, u, hW2, hO2, hT, hu⟩
end Go.Proofs.YtdpjjnbelgaagaaGreatDoor

namespace Go.Proofs.YtdpjjnbelgaagaaGreatDoor
open Go.ChangeShapes Go.WideShapes Go.ChangeAt Go.RowKit
set_option maxRecDepth 100000

structure IsW (w : World) (g : Nat) (v : Value) (bs : List UInt8) : Prop where
  blk : Blk w g 108 #[v]
  own : Own w 5 1 v bs.length (bc bs)
  le : bs.length ≤ 4194304
structure WStep (g : Nat) (w : World) (v : Value) (w' : World) (v' : Value) : Prop where
  touch : Touch (WF g v) w w'
  at_ : ∀ k, v'.ownBlock = some k → v.ownBlock = some k ∨ w.heap.size ≤ k
theorem WStep.refl (g : Nat) (w : World) (v : Value) : WStep g w v w v := ⟨Touch.refl _ _, fun _ h => .inl h⟩
theorem WStep.of_below {g : Nat} {w w' : World} {v : Value} (h : Below w.heap.size w w') : WStep g w v w' v := ⟨Touch.of_below h _, fun _ h => .inl h⟩
theorem WStep.trans {g : Nat} {a b c : World} {u v x : Value} (h : WStep g a u b v) (k : WStep g b v c x) : WStep g a u c x :=
  ⟨h.touch.trans k.touch fun j hj hf => by
    rcases hf with hf | hf
    · exact .inl hf
    · rcases h.at_ j hf with h1 | h1
      · exact .inr h1
      · omega, fun j hj => by
    rcases k.at_ j hj with h1 | h1
    · exact h.at_ j h1
    · have := h.touch.size
      exact .inr (by omega)⟩
theorem IsW.below {w w' : World} {g : Nat} {v : Value} {bs : List UInt8} (h : IsW w g v bs) (hb : Below w.heap.size w w') : IsW w' g v bs :=
  ⟨h.blk.below hb h.blk.lt, h.own.new hb, h.le⟩
theorem IsW.touch {w w' : World} {g : Nat} {v : Value} {bs : List UInt8} {F : Nat → Prop} (h : IsW w g v bs) (hb : Touch F w w') (h1 : ¬ F g) (h2 : ∀ k, v.ownBlock = some k → ¬ F k) : IsW w' g v bs :=
  ⟨h.blk.touch hb h1, h.own.touch hb h2, h.le⟩
def putE (bs s : List UInt8) : Int := if bs.length + s.length ≤ 4194304 then 0 else 40
def putB (bs s : List UInt8) : List UInt8 := if bs.length + s.length ≤ 4194304 then bs ++ s else bs
/-- put behind what was made of the parts. -/
theorem put_any (w : World) (H g bL : Nat) (ps : List Part) (bs : List UInt8) (v : Value) (hW : IsW w g v bs) (hbL : Blk w bL 74 (ps.map Prod.fst).toArray)
    (hgH : g < H) (hvH : ∀ k, v.ownBlock = some k → k < H) (hps : ∀ p ∈ ps, Rd w (fun k => H ≤ k ∧ k < w.heap.size) p.1 p.2.length (bc p.2)) (hH : H ≤ w.heap.size) (hn : ps.length ≤ 2) (hsm : ∀ p ∈ ps, p.2.length ≤ 140737488351232) (n : Nat) (hpl : ps.length = n) :
    Calls Tryz.prog 155 #[.pointer (some ⟨g, 0, none⟩), .slice (some ⟨bL, 0, none⟩) n n] w fun e w' => e = .returned (.int .i64 (putE bs (catB ps ps.length))) ∧ ∃ v', IsW w' g v' (putB bs (catB ps ps.length)) ∧ WStep g w v w' v' := by
  subst hpl
  unfold putE putB
  by_cases h : bs.length + (catB ps ps.length).length ≤ 4194304
  · rw [if_pos h, if_pos h]
    refine (put_ok w H g bL ps bs v hW.blk hW.own hbL hgH hvH hps hH hW.le hn h).mono ?_
    rintro e w' ⟨rfl, v', h1, h2, h3, h4⟩
    exact ⟨rfl, v', ⟨h1, h2, by rw [List.length_append]; exact h⟩, h3, h4⟩
  · rw [if_neg h, if_neg h]
    refine (put_no w g bL ps bs v hW.blk hW.own hbL _ hps hW.le hn hsm (by omega)).mono ?_
    rintro e w' ⟨rfl, rfl⟩
    exact ⟨rfl, v, hW, WStep.refl _ _ _⟩
theorem num_any (g : Nat) (v : Value) (bs : List UInt8) (n : Nat) (w : World) (hn : n ≤ 9223372036854775807) (hW : IsW w g v bs) :
    Calls Tryz.prog 111 #[.pointer (some ⟨g, 0, none⟩), .int .i64 n] w fun e w' => e = .returned (.int .i64 (putE bs (numL n))) ∧ ∃ v', IsW w' g v' (putB bs (numL n)) ∧ WStep g w v w' v' := by
  have hbg := hW.blk.lt
  have hvl := hW.own.lt
  go_enter Tryz.func111, Tryz.ntmps111
  go_wp2_with fail
  refine (number_any n _ hn).mono ?_
  rintro e w1 ⟨u, rfl, hO1, hb1, hu1⟩
  have hR := hO1.rd (Pb := fun k => w.heap.size ≤ k ∧ k < w1.heap.size) hu1
  have hS := hb1.size
  obtain ⟨ao, cap, rfl, _, _, _⟩ := hO1.form
  have hput := put_any (w1.alloc (.cells #[.slice ao (numL n).length cap] 74)) w.heap.size g w1.heap.size [(.slice ao (numL n).length cap, numL n)] bs v ((hW.below hb1).below ((Below.refl _ _).alloc (Nat.le_refl _) _)) (Blk.new _ _ _)
    hbg hvl (fun p hp => by
      simp only [List.mem_singleton] at hp
      subst hp
      exact (hR.touch (Touch.alloc (Touch.refl (fun _ => False) _) _) (fun _ _ f => f.elim)).mono (fun k hk _ => ⟨hk.1, by simp; omega⟩)) (by simp; omega) (by simp) (fun p hp => by
      simp only [List.mem_singleton] at hp
      subst hp
      have := numL_9 n (by omega)
      simp only
      omega) 1 rfl
  have hcat : catB [((Value.slice ao (numL n).length cap, numL n) : Part)] [((Value.slice ao (numL n).length cap, numL n) : Part)].length = numL n := by simp [catB]
  rw [hcat] at hput
  have HP := Lib.hid hput
  clear hput hcat
  go_wp2_with fail
  refine HP.out.mono ?_
  rintro e w2 ⟨rfl, v', h1, h2⟩
  go_wp2_with fail
  go_ret
  exact ⟨rfl, v', h1, ((WStep.of_below hb1).trans (WStep.of_below ((Below.refl _ _).alloc (Nat.le_refl _) _))).trans h2⟩
end Go.Proofs.YtdpjjnbelgaagaaGreatDoor

namespace Go.Proofs.YtdpjjnbelgaagaaGreatDoor
open Go.ChangeShapes Go.WideShapes Go.ChangeAt Go.RowKit
set_option maxRecDepth 100000

theorem rd_bytes (w : World) (s : ByteArray) (cap : Nat) (fr : Nat × Nat) (hc : s.size ≤ cap) (hm : cap ≤ maxLen) (Pb : Nat → Prop) (hp : Pb w.heap.size) :
    Rd (w.alloc (.cells (bytesRow s cap) 5 fr)) Pb (.slice (some ⟨w.heap.size, 0, none⟩) s.size cap) s.size (bc s.data.toList) := by
  refine ⟨by rw [bc_len]; simp, _, cap, rfl, hc, hm, fun _ => ⟨w.heap.size, 0, rfl, hp, by simp, fun j hj => ?_⟩⟩
  have hj' : j < s.data.size := hj
  rw [cell_of_row _ _ (0 + j) _ _ _ (heap_alloc_new w _), Nat.zero_add, bytesRow_at s cap j hj', bc_get _ j (by simpa using hj')]
  simp
theorem wtext_any (g : Nat) (v : Value) (bs : List UInt8) (s : ByteArray) (w : World) (hs : s.size ≤ 140737488351232) (hW : IsW w g v bs) :
    Calls Tryz.prog 112 #[.pointer (some ⟨g, 0, none⟩), .string s] w fun e w' => e = .returned (.int .i64 (putE bs (numL s.size ++ s.data.toList))) ∧ ∃ v', IsW w' g v' (putB bs (numL s.size ++ s.data.toList)) ∧ WStep g w v w' v' := by
  have hbg := hW.blk.lt
  have hvl := hW.own.lt
  have hcv := fun w => run_bytes_of_string (P := Tryz.prog) w 9 74 5 s Tryz.underlying9 Tryz.underlying74 Tryz.underlying5
  go_enter Tryz.func112, Tryz.ntmps112
  go_wp2_with fail
  refine (number_any s.size _ (by omega)).mono ?_
  rintro e w1 ⟨u, rfl, hO1, hb1, hu1⟩
  have hR := hO1.rd (Pb := fun k => w.heap.size ≤ k ∧ k < w1.heap.size) hu1
  have hS := hb1.size
  obtain ⟨ao, cap, rfl, _, _, _⟩ := hO1.form
  have hgc := grownCap_ge w1 s.size 0 5
  have hgm := grownCap_le_maxLen w1 s.size 0 5 (by simp only [maxLen]; omega)
  have hbel : Below w1.heap.size w1 (((w1.alloc (Obj.cells (bytesRow s (grownCap w1 s.size 0 5)) 5 ((bytesRow s (grownCap w1 s.size 0 5)).size, (bytesRow s (grownCap w1 s.size 0 5)).size + 1))).alloc
      (Obj.cells #[Value.slice ao (numL s.size).length cap, Value.slice (some { block := w1.heap.size, off := 0 }) s.size (grownCap w1 s.size 0 5)] 74)).drew) :=
    (((Below.refl _ _).alloc (Nat.le_refl _) _).alloc (by simp) _).drew
  have hput := put_any (((w1.alloc (Obj.cells (bytesRow s (grownCap w1 s.size 0 5)) 5 ((bytesRow s (grownCap w1 s.size 0 5)).size, (bytesRow s (grownCap w1 s.size 0 5)).size + 1))).alloc
      (Obj.cells #[Value.slice ao (numL s.size).length cap, Value.slice (some { block := w1.heap.size, off := 0 }) s.size (grownCap w1 s.size 0 5)] 74)).drew)
    w.heap.size g (w1.heap.size + 1) [(.slice ao (numL s.size).length cap, numL s.size), (.slice (some { block := w1.heap.size, off := 0 }) s.size (grownCap w1 s.size 0 5), s.data.toList)] bs v ((hW.below hb1).below hbel)
    (by have := Blk.new (w1.alloc (Obj.cells (bytesRow s (grownCap w1 s.size 0 5)) 5 ((bytesRow s (grownCap w1 s.size 0 5)).size, (bytesRow s (grownCap w1 s.size 0 5)).size + 1))) 74 #[Value.slice ao (numL s.size).length cap, Value.slice (some { block := w1.heap.size, off := 0 }) s.size (grownCap w1 s.size 0 5)]
        simp only [World.size_alloc] at this
        exact this.drew)
    hbg hvl (fun p hp => by
      simp only [List.mem_cons, List.not_mem_nil, or_false] at hp
      rcases hp with rfl | rfl
      · exact (hR.touch (Touch.of_below hbel (fun _ => False)) (fun _ _ f => f.elim)).mono (fun k hk _ => ⟨hk.1, by simp; omega⟩)
      · have h1 := rd_bytes w1 s (grownCap w1 s.size 0 5) ((bytesRow s (grownCap w1 s.size 0 5)).size, (bytesRow s (grownCap w1 s.size 0 5)).size + 1) hgc hgm (fun k => k = w1.heap.size) rfl
        have h2 := (h1.touch ((Touch.alloc (Touch.refl (fun _ => False) _) (Obj.cells #[Value.slice ao (numL s.size).length cap, Value.slice (some { block := w1.heap.size, off := 0 }) s.size (grownCap w1 s.size 0 5)] 74)).drew) (fun _ _ f => f.elim)).mono (Qb := fun k => w.heap.size ≤ k ∧ k < (((w1.alloc (Obj.cells (bytesRow s (grownCap w1 s.size 0 5)) 5 ((bytesRow s (grownCap w1 s.size 0 5)).size, (bytesRow s (grownCap w1 s.size 0 5)).size + 1))).alloc
      (Obj.cells #[Value.slice ao (numL s.size).length cap, Value.slice (some { block := w1.heap.size, off := 0 }) s.size (grownCap w1 s.size 0 5)] 74)).drew).heap.size) (fun k hk _ => ⟨by omega, by simp; omega⟩)
        have hl : s.data.toList.length = s.size := by simp
        rw [hl]
        exact h2) (by simp; omega) (by simp) (fun p hp => by
      simp only [List.mem_cons, List.not_mem_nil, or_false] at hp
      rcases hp with rfl | rfl
      · have := numL_9 s.size (by omega)
        simp only
        omega
      · have hl : s.data.toList.length = s.size := by simp
        simp only
        omega) 2 rfl
  have hcat : ∀ p q : Part, catB [p, q] [p, q].length = p.2 ++ q.2 := by intro p q; simp [catB]
  rw [hcat] at hput
  have HP := Lib.hid hput
  have HB := Lib.hid hbel
  clear hput hcat hbel
  go_wp2_with fail
  refine HP.out.mono ?_
  rintro e w2 ⟨rfl, v', h1, h2⟩
  go_wp2_with fail
  go_ret
  exact ⟨rfl, v', h1, ((WStep.of_below hb1).trans (WStep.of_below HB.out)).trans h2⟩
theorem conv_own {w : World} {v : Value} {l : List UInt8} (h : Own w 5 1 v l.length (bc l)) : (convert 74 9 v).run Tryz.prog w = .ok (.string ⟨l.toArray⟩) w := by
  obtain ⟨ao, cap, rfl, _, _, hf⟩ := h.form
  rcases Nat.eq_zero_or_pos l.length with h0 | h0
  · have hl : l = [] := List.eq_nil_of_length_eq_zero h0
    subst hl
    cases ao with
    | none => exact run_convert_bytes_nil w 74 5 Tryz.underlying74 Tryz.underlying5 _ _ 9 Tryz.underlying9
    | some a => exact run_convert_bytes_back w 74 9 5 a cap [] Tryz.underlying74 Tryz.underlying5 Tryz.underlying9 (fun j hj => by simp at hj)
  · obtain ⟨g, off, rfl, hc, _, _⟩ := hf h0
    refine run_convert_bytes_back w 74 9 5 ⟨g, off, none⟩ cap l Tryz.underlying74 Tryz.underlying5 Tryz.underlying9 (fun j hj => ?_)
    have ha : (⟨g, off, none⟩ : Addr).add j = ⟨g, off + j, none⟩ := by unfold Addr.add; split <;> simp_all
    rw [ha, hc j (by rw [bc_len]; exact hj), bc_get l j hj]
theorem bytes_any (g : Nat) (v : Value) (bs : List UInt8) (w : World) (hW : IsW w g v bs) : Calls Tryz.prog 32 #[.pointer (some ⟨g, 0, none⟩)] w fun e w' => e = .returned (.string ⟨bs.toArray⟩) ∧ w = w' := by
  have hcv := conv_own hW.own
  have hc := hW.blk.cell 0
  simp at hc
  obtain ⟨ao, cap, rfl, _, _, _⟩ := hW.own.form
  go_enter Tryz.func32, Tryz.ntmps32
  go_wp2_with fail
  go_ret
  exact ⟨rfl, rfl⟩
theorem new_any (w : World) : Calls Tryz.prog 27 #[] w fun e w' => e = .returned (.pointer (some ⟨w.heap.size, 0, none⟩)) ∧ IsW w' w.heap.size (.slice none 0 0) [] ∧ Below w.heap.size w w' := by
  go_enter Tryz.func27, Tryz.ntmps27
  go_wp2_with fail
  go_ret
  exact ⟨rfl, ⟨Blk.new _ _ _, Own.nil _ _ _, by simp⟩, (Below.refl _ _).alloc (Nat.le_refl _) _⟩
end Go.Proofs.YtdpjjnbelgaagaaGreatDoor

namespace Go.Proofs.YtdpjjnbelgaagaaGreatDoor
open Go.ChangeShapes Go.WideShapes Go.ChangeAt Go.RowKit
set_option maxRecDepth 100000

theorem conv_one (w : World) (u : Int) (h0 : 0 ≤ u) (h1 : u < 256) : (convert 74 9 (.slice (some ⟨w.heap.size, 0, none⟩) 1 1)).run Tryz.prog (w.alloc (.cells #[.int .u8 u] 5)) = .ok (.string ⟨#[UInt8.ofNat u.toNat]⟩) (w.alloc (.cells #[.int .u8 u] 5)) := by
  have h := run_convert_bytes_back (P := Tryz.prog) (w.alloc (.cells #[.int .u8 u] 5)) 74 9 5 ⟨w.heap.size, 0, none⟩ 1 [UInt8.ofNat u.toNat] Tryz.underlying74 Tryz.underlying5 Tryz.underlying9 (fun j hj => by
    have hj0 : j = 0 := by simpa using hj
    subst hj0
    have hb := Blk.new w 5 #[.int .u8 u]
    have ha : (⟨w.heap.size, 0, none⟩ : Addr).add 0 = ⟨w.heap.size, 0, none⟩ := rfl
    rw [ha, hb.cell]
    simp
    omega)
  exact h
end Go.Proofs.YtdpjjnbelgaagaaGreatDoor

namespace Go.Proofs.YtdpjjnbelgaagaaGreatDoor
set_option maxRecDepth 100000
open Go.ChangeShapes Go.WideShapes Go.ChangeAt Go.RowKit

end Go.Proofs.YtdpjjnbelgaagaaGreatDoor

namespace Go.Proofs.YtdpjjnbelgaagaaGreatDoor
open Go.ChangeShapes Go.WideShapes Go.ChangeAt Go.RowKit
set_option maxRecDepth 100000

def byteAt (s : ByteArray) (i : Nat) : Nat := (s.data.toList.getD i 0).toNat
theorem byteAt_lt (s : ByteArray) (i : Nat) : byteAt s i < 256 := (s.data.toList.getD i 0).toNat_lt
/-- A number read at 'at', i bytes of which were gone over: the number and how many bytes, or what is wrong. -/
def rdN (s : ByteArray) (at_ : Nat) (lo hi : Int) : Nat → Nat → Nat → Sum (Nat × Nat) Int
  | 0, _, _ => .inr 20
  | f + 1, i, n =>
    if s.size ≤ at_ + i then .inr 8
    else if 128 ≤ byteAt s (at_ + i) then rdN s at_ lo hi f (i + 1) (n + byteAt s (at_ + i) % 128 * 128 ^ i)
    else if 0 < i ∧ byteAt s (at_ + i) = 0 then .inr 11
    else if ((n + byteAt s (at_ + i) % 128 * 128 ^ i : Nat) : Int) < lo ∨ hi < ((n + byteAt s (at_ + i) % 128 * 128 ^ i : Nat) : Int) then .inr 20
    else .inl (n + byteAt s (at_ + i) % 128 * 128 ^ i, i + 1)
theorem index_at (s : ByteArray) (i : Nat) (h : i < s.size) (W : World) : (Instr.index 9 (.string s) (.int .i64 (i : Int))).run Tryz.prog W = .ok (.int .u8 (byteAt s i : Nat)) W := by
  have hg : s[i]? = some (s.data.toList.getD i 0) := by
    rw [getElem?_pos s i h]
    congr 1
    have h2 : i < s.data.size := h
    simp only [List.getD, Array.getElem?_toList, Array.getElem?_eq_getElem h2]
    rfl
  simp [Instr.index, asIntOf, run_underlying Tryz.underlying9, byteAt, hg]
theorem int_of_bits (a : Nat) (ha : a < 9223372036854775808) : (BitVec.ofInt 64 (a : Int)).toNat = a := by
  rw [BitVec.ofInt_natCast, BitVec.toNat_ofNat]; exact Nat.mod_eq_of_lt (by omega)
theorem or_nat (a b : Nat) (ha : a < 9223372036854775808) (hb : b < 9223372036854775808) : bits .or .i64 (a : Int) (b : Int) = ((a ||| b : Nat) : Int) := by
  have hx : a ||| b < 2 ^ 63 := Nat.or_lt_two_pow (by omega) (by omega)
  show IntKind.i64.wrap ((BitVec.ofInt 64 (a : Int) ||| BitVec.ofInt 64 (b : Int)).toNat : Int) = _
  rw [BitVec.toNat_or, int_of_bits a ha, int_of_bits b hb, IntKind.wrap_i64]
  omega
theorem pow_le9 (i : Nat) (h : i < 9) : 128 ^ i ≤ 72057594037927936 := by
  have : 128 ^ i ≤ 128 ^ 8 := Nat.pow_le_pow_right (by omega) (by omega)
  simpa using this
theorem acc_val (n b i : Nat) (hb : b < 256) (hi : i < 9) (hn : n < 128 ^ i) : bits BinOp.or IntKind.i64 (n : Int) (wrap64 (wrap64 (bits BinOp.and IntKind.u8 (b : Int) 127) * 2 ^ (7 * i))) = ((n + b % 128 * 128 ^ i : Nat) : Int) ∧ n + b % 128 * 128 ^ i < 128 ^ (i + 1) := by
  have h1 : bits BinOp.and IntKind.u8 (b : Int) 127 = ((b % 128 : Nat) : Int) := by
    rw [show (127 : Int) = ((127 : Nat) : Int) from rfl, u8_and_nat b 127 hb (by omega)]
    congr 1
    exact Nat.and_two_pow_sub_one_eq_mod b 7
  have hp := pow_le9 i hi
  have e2 : (2 : Int) ^ (7 * i) = ((128 ^ i : Nat) : Int) := by
    rw [Int.pow_mul]
    simp
  have hm : b % 128 * 128 ^ i ≤ 127 * 72057594037927936 := Nat.mul_le_mul (by omega) hp
  have hx : n + b % 128 * 128 ^ i < 128 ^ (i + 1) := by
    have : b % 128 * 128 ^ i ≤ 127 * 128 ^ i := Nat.mul_le_mul_right _ (by omega)
    rw [Nat.pow_succ]
    omega
  refine ⟨?_, hx⟩
  have e1 : wrap64 ((b % 128 : Nat) : Int) = ((b % 128 : Nat) : Int) := by unfold wrap64; omega
  have e3 : wrap64 ((b % 128 * 128 ^ i : Nat) : Int) = ((b % 128 * 128 ^ i : Nat) : Int) := by unfold wrap64; omega
  rw [h1, e1, e2, ← Int.natCast_mul, e3, or_nat _ _ (by omega) (by omega)]
  congr 1
  rw [Nat.or_comm, nat_join (7 * i) _ n ?_ ?_, Nat.add_comm]
  · rw [Nat.pow_mul]
    exact Nat.mul_mod_left _ _
  · rw [Nat.pow_mul]
    exact hn
/-- How number ends. -/
def NumEnd (g : Nat) (s : ByteArray) (at_ : Nat) (w : World) : Sum (Nat × Nat) Int → Ending → World → Prop
  | .inl (n, k), e, w' => e = .returned (.int .i64 n) ∧ Blk w' g 135 #[.string s, .int .i64 ((at_ + k : Nat) : Int), .int .i64 0] ∧ Touch (· = g) w w'
  | .inr x, e, w' => e = .panicked [{ v := .iface 195 (.agg #[.int .i64 at_, .int .i64 x]), recovered := false }] ∧ Blk w' g 135 #[.string s, .int .i64 at_, .int .i64 0] ∧ Touch (· = g) w w'
set_option maxHeartbeats 1000000 in
theorem number_walk (g : Nat) (s : ByteArray) (at_ : Nat) (lo hi : Int) (w : World) (hb : Blk w g 135 #[.string s, .int .i64 at_, .int .i64 0]) (hat : at_ ≤ s.size) (hs : s.size ≤ 140737488351232) :
    Calls Tryz.prog 131 #[.pointer (some ⟨g, 0, none⟩), .int .i64 lo, .int .i64 hi] w (NumEnd g s at_ w (rdN s at_ lo hi 9 0 0)) := by
  have hc0 := hb.cell 0
  have hc1 := hb.cell 1
  have hf1 := hb.frozen 1
  simp at hc0 hc1
  go_enter Tryz.func131, Tryz.ntmps131
  go_wp2_with fail
  go_loopw [7, 10] (fun x y wr => ∃ (i n : Nat), i ≤ 9 ∧ y = .int .i64 i ∧ x = .int .i64 n ∧ n < 128 ^ i ∧ rdN s at_ lo hi (9 - i) i n = rdN s at_ lo hi 9 0 0 ∧ ∃ q, wr = w.drewN q) (fun _ y _ => 9 - (intOf y).toNat)
  case atStart => exact ⟨0, 0, by omega, rfl, rfl, by simp, rfl, 0, rfl⟩
  case round =>
    obtain ⟨i, n, hi9, rfl, rfl, hn, hres, q, rfl⟩ := hrel
    have HR := Lib.hid hres
    clear hres
    by_cases hlt : i < 9
    · have HS : Hid (rdN s at_ lo hi (9 - i) i n = _) := Lib.hid (by rw [show 9 - i = (8 - i) + 1 from by omega, rdN])
      by_cases h8 : s.size ≤ at_ + i
      · go_wp2_with fail
        go_quiet (fail)
        go_wp2_with fail
        refine ⟨rfl, ?_⟩
        rw [← HR.out, HS.out, if_pos h8]
        exact ⟨rfl, hb.drewN _, (Touch.refl _ _).drewN _⟩
      · have hwr : IntKind.i64.wrap ((at_ : Int) + (i : Int)) = (at_ : Int) + (i : Int) := by rw [IntKind.wrap_i64]; omega
        have hix := index_at s (at_ + i) (by omega)
        rw [Int.natCast_add] at hix
        have hb256 := byteAt_lt s (at_ + i)
        obtain ⟨hv, hn2⟩ := acc_val n (byteAt s (at_ + i)) i hb256 hlt hn
        have HS2 : Hid (rdN s at_ lo hi (9 - i) i n = _) := Lib.hid (HS.out.trans (if_neg h8))
        clear HS
        generalize byteAt s (at_ + i) = b at *
        generalize n + b % 128 * 128 ^ i = m at *
        by_cases hb128 : 128 ≤ b
        · have hbi : (128 : Int) ≤ (b : Int) := by omega
          go_wp2_with fail
          go_quiet (fail)
          go_wp2_with fail
          go_quiet (fail)
          go_wp2_with fail
          go_roundw
          case rel =>
            refine ⟨i + 1, m, by omega, by go_num, rfl, hn2, ?_, _, rfl⟩
            rw [← HR.out, HS2.out, if_pos hb128, show 9 - (i + 1) = 8 - i from by omega]
          case measure => simp [intOf]; omega
        · have hbi : (b : Int) < 128 := by omega
          have HS3 : Hid (rdN s at_ lo hi (9 - i) i n = _) := Lib.hid (HS2.out.trans (if_neg hb128))
          clear HS2
          by_cases hw0 : 0 < i ∧ b = 0
          · obtain ⟨hi0, hb0⟩ := hw0
            have hi0' : (0 : Int) < (i : Int) := by omega
            have hbb : ((b : Int) == 0) = true := by simpa using hb0
            go_wp2_with fail
            go_quiet (fail)
            go_wp2_with fail
            go_quiet (fail)
            go_wp2_with fail
            refine ⟨rfl, ?_⟩
            rw [← HR.out, HS3.out, if_pos ⟨hi0, hb0⟩]
            exact ⟨rfl, hb.drewN _, (Touch.refl _ _).drewN _⟩
          · have HS4 : Hid (rdN s at_ lo hi (9 - i) i n = _) := Lib.hid (HS3.out.trans (if_neg hw0))
            clear HS3
            have hcase : (decide (0 < i) = false) ∨ ((0 : Int) < (i : Int) ∧ ((b : Int) == 0) = false) := by
              by_cases h : 0 < i
              · exact .inr ⟨by omega, by simp; omega⟩
              · exact .inl (by simp; omega)
            clear hw0
            rcases hcase with hz | ⟨hz, hz2⟩
            all_goals
              by_cases hlo : (m : Int) < lo
              · go_wp2_with fail
                go_quiet (fail)
                go_wp2_with fail
                go_quiet (fail)
                go_wp2_with fail
                refine ⟨rfl, ?_⟩
                rw [← HR.out, HS4.out, if_pos (.inl hlo)]
                exact ⟨rfl, hb.drewN _, (Touch.refl _ _).drewN _⟩
              · by_cases hhi : hi < (m : Int)
                · have hlo' : decide ((m : Int) < lo) = false := by simpa using hlo
                  go_wp2_with fail
                  go_quiet (fail)
                  go_wp2_with fail
                  go_quiet (fail)
                  go_wp2_with fail
                  refine ⟨rfl, ?_⟩
                  rw [← HR.out, HS4.out, if_pos (.inr hhi)]
                  exact ⟨rfl, hb.drewN _, (Touch.refl _ _).drewN _⟩
                · have hlo' : decide ((m : Int) < lo) = false := by simpa using hlo
                  have hhi' : decide (hi < (m : Int)) = false := by simpa using hhi
                  go_wp2_with fail
                  go_quiet (fail)
                  go_wp2_with fail
                  go_quiet (fail)
                  go_wp2_with fail
                  go_ret
                  rw [← HR.out, HS4.out, if_neg (by omega)]
                  refine ⟨rfl, ?_, Touch.setCell (F := fun x => x = g) ((Touch.refl _ _).drewN _) (p := ⟨g, 1, none⟩) (fun _ => rfl) _⟩
                  have h := (hb.drewN (q + 0)).set_ 1 (.int .i64 ((at_ + (i + 1) : Nat) : Int))
                  rw [Int.natCast_add] at h ⊢
                  exact h
    · obtain rfl : i = 9 := by omega
      go_wp2_with fail
      refine ⟨rfl, ?_⟩
      rw [← HR.out]
      exact ⟨rfl, hb.drewN _, (Touch.refl _ _).drewN _⟩
end Go.Proofs.YtdpjjnbelgaagaaGreatDoor

namespace Go.Proofs.YtdpjjnbelgaagaaGreatDoor
open Go.ChangeShapes Go.WideShapes Go.ChangeAt Go.RowKit
set_option maxRecDepth 100000

theorem caught_idle (g : Nat) (w : World) :
    CallsD Tryz.prog 130 #[.pointer (some ⟨g, 0, none⟩)] .returning w fun e u' w' => e = .returned (.tuple #[]) ∧ u' = .returning ∧ w' = w := by
  refine callsD_of_wpS Tryz.func130 rfl fun c₀ cs hu => ?_
  apply wpS_seq
  apply wpS_region
  simp [wpOpsS, go_sem, recoverD, hu, Tryz.ntmps130, Exit.thenS]
  apply wpS_seq
  apply wpS_region
  simp [wpOpsS, go_sem, Exit.thenS]
  refine wpS_cond (t := false) (by simp [Act.eval]) ?_
  simp only [Bool.false_eq_true, if_false]
  refine wpS_of_wp (wp_skip ?_)
  cases c₀
  simp_all [bodyPostS, results, Tryz.results130]
theorem caught_frame (g : Nat) (v : Value) : (#[Value.pointer (some ⟨g, 0, none⟩)] ++ ((((Array.replicate 25 undef).setIfInBounds 4 v).setIfInBounds 1 v).setIfInBounds 5 v).setIfInBounds 6 (Value.bool true)) =
    #[.pointer (some ⟨g, 0, none⟩), undef, v, undef, undef, v, v, .bool true, undef, undef, undef, undef, undef, undef, undef, undef, undef, undef, undef, undef, undef, undef, undef, undef, undef, undef] := by kernel_rfl
theorem caught_panicking (g : Nat) (a x : Int) (older : List PanicEntry) (s : ByteArray) (at_ : Int) (w : World) (hb : Blk w g 135 #[.string s, .int .i64 at_, .int .i64 0]) :
    CallsD Tryz.prog 130 #[.pointer (some ⟨g, 0, none⟩)] (.panicking ({ v := .iface 195 (.agg #[.int .i64 a, .int .i64 x]), recovered := false } :: older)) w fun e u' w' =>
      e = .returned (.tuple #[]) ∧ u' = .panicking ({ v := .iface 195 (.agg #[.int .i64 a, .int .i64 x]), recovered := true } :: older) ∧ Blk w' g 135 #[.string s, .int .i64 a, .int .i64 x] ∧ Touch (· = g) w w' := by
  refine callsD_of_wpS Tryz.func130 rfl fun c₀ cs hu => ?_
  apply wpS_seq
  apply wpS_region
  simp [wpOpsS, go_sem, recoverD, hu, Tryz.ntmps130, Exit.thenS]
  have hc := hb.cell 0
  have hc1 := hb.cell 1
  have hc2 := hb.cell 2
  have hf1 := hb.frozen 1
  have hf2 := hb.frozen 2
  simp at hc hc1 hc2
  have hgl := hb.lt
  have hne : ¬ g = w.heap.size := by omega
  have hne' : ¬ w.heap.size = g := by omega
  apply wpS_seq
  apply wpS_region
  simp [wpOpsS, go_sem, Exit.thenS]
  refine wpS_cond (t := true) (by simp [Act.eval]) ?_
  simp only [if_true]
  refine wpS_of_wp (Code.wp_mono (Q := fun e a' w' => e = Exit.normal ∧ a'.defers = [] ∧ Blk w' g 135 #[.string s, .int .i64 a, .int .i64 x] ∧ Touch (· = g) w w') ?_ ?_)
  · rintro e a1 w1 ⟨rfl, hd, h1, h2⟩
    simp [bodyPostS, results, Tryz.results130, hd]
    exact ⟨h1, h2⟩
  have hta : ∀ w, (Instr.typeAssert (.iface 195 (.agg #[.int .i64 a, .int .i64 x])) 20 195 true).run Tryz.prog w = .ok (.tuple #[.agg #[.int .i64 a, .int .i64 x], .bool true]) w := fun _ => by kernel_rfl
  rw [caught_frame]
  go_wp2_with fail
  go_region
  refine ⟨rfl, rfl, ?_, ?_⟩
  · exact (((hb.set_ 1 (.int .i64 a)).set_ 2 (.int .i64 x)).alloc (.cells #[.int .i64 a, .int .i64 x] 195)).drew
  · exact ((((Touch.refl (fun x => x = g) w).setCell (p := ⟨g, 1, none⟩) (fun _ => rfl) _).setCell (p := ⟨g, 2, none⟩) (fun _ => rfl) _).alloc _).drew
/-- The reader's state: its place, and what is wrong. -/
def rNum (s : ByteArray) (at_ : Nat) (e : Int) (lo hi : Int) : Int × Nat × Int :=
  if e = 0 then match rdN s at_ lo hi 9 0 0 with
    | .inl (n, k) => (n, at_ + k, 0)
    | .inr x => (0, at_, x)
  else (0, at_, e)
def RB (s : ByteArray) (at_ : Nat) (e : Int) : Array Value := #[.string s, .int .i64 (at_ : Int), .int .i64 e]
theorem rnum_any (g : Nat) (s : ByteArray) (at_ : Nat) (e lo hi : Int) (w : World) (hb : Blk w g 135 (RB s at_ e)) (hat : at_ ≤ s.size) (hs : s.size ≤ 140737488351232) :
    Calls Tryz.prog 83 #[.pointer (some ⟨g, 0, none⟩), .int .i64 lo, .int .i64 hi] w fun r w' => r = .returned (.int .i64 (rNum s at_ e lo hi).1) ∧ Blk w' g 135 (RB s (rNum s at_ e lo hi).2.1 (rNum s at_ e lo hi).2.2) ∧ Touch (· = g) w w' := by
  have hc2 := hb.cell 2
  simp [RB] at hc2
  unfold rNum
  by_cases he : e = 0
  · subst he
    rw [if_pos rfl]
    have HN := Lib.hid (number_walk g s at_ lo hi w hb hat hs)
    generalize rdN s at_ lo hi 9 0 0 = res at *
    go_enter_defers Tryz.func83, Tryz.ntmps83
    go_wp2_with fail
    refine HN.out.mono ?_
    cases res with
    | inl p =>
      obtain ⟨n, k⟩ := p
      rintro r w1 ⟨rfl, hb1, ht1⟩
      go_wp2_with fail
      refine leaves_cons (f := 130) (args := #[.pointer (some ⟨g, 0, none⟩)]) (by simp) (by simp [go_sem]) ?_
      refine (caught_idle g _).mono ?_
      rintro e u' w'' ⟨rfl, rfl, rfl⟩

      simp [Leaves, settle, results, Tryz.results83, go_sem, RB]
      exact ⟨hb1, ht1⟩
    | inr x =>
      rintro r w1 ⟨rfl, hb1, ht1⟩
      go_wp2_with fail
      refine leaves_cons (f := 130) (args := #[.pointer (some ⟨g, 0, none⟩)]) (by simp) (by simp [go_sem]) ?_
      refine (caught_panicking g at_ x [] s at_ _ hb1).mono ?_
      rintro e u' w'' ⟨rfl, rfl, hb2, ht2⟩

      simp [Leaves, settle, results, Tryz.results83, go_sem, RB]
      exact ⟨hb2, ht1.trans ht2 (fun _ _ h => h)⟩
  · rw [if_neg he]
    have hne : (e == 0) = false := by simpa using he
    have hne' : (e != 0) = true := by simp [bne, he]
    go_enter_defers Tryz.func83, Tryz.ntmps83
    go_wp2_with fail
    simp [bodyPostD, Leaves, results, Tryz.results83, go_sem]
    exact ⟨hb, .refl _ _⟩
end Go.Proofs.YtdpjjnbelgaagaaGreatDoor

namespace Go.Proofs.YtdpjjnbelgaagaaGreatDoor
open Go.ChangeShapes Go.WideShapes Go.ChangeAt Go.RowKit
set_option maxRecDepth 100000

theorem rdN_in (s : ByteArray) (at_ : Nat) (lo hi : Int) : ∀ f i n (m k : Nat), i + f = 9 → n < 128 ^ i → rdN s at_ lo hi f i n = .inl (m, k) → at_ + k ≤ s.size ∧ i < k ∧ k ≤ 9 ∧ m < 9223372036854775808 ∧ lo ≤ m ∧ (m : Int) ≤ hi := by
  intro f
  induction f with
  | zero => intro i n m k _ _ h; simp [rdN] at h
  | succ f ih =>
    intro i n m k hi9 hn h
    rw [rdN] at h
    obtain ⟨_, hv⟩ := acc_val n (byteAt s (at_ + i)) i (byteAt_lt _ _) (by omega) hn
    split at h
    · simp at h
    · split at h
      · obtain ⟨a, b, c⟩ := ih _ _ _ _ (by omega) hv h
        exact ⟨a, by omega, c⟩
      · split at h
        · simp at h
        · split at h
          · simp at h
          · simp at h
            obtain ⟨rfl, rfl⟩ := h
            have hp : 128 ^ (i + 1) ≤ 128 ^ 9 := Nat.pow_le_pow_right (by omega) (by omega)
            refine ⟨by omega, by omega, by omega, ?_, by omega, by omega⟩
            exact Nat.lt_of_lt_of_le hv (by simpa using hp)
def rText (s : ByteArray) (at_ : Nat) (e most : Int) : ByteArray × Nat × Int :=
  if e = 0 then match rdN s at_ 0 most 9 0 0 with
    | .inl (n, k) => if s.size < at_ + k + n then (⟨#[]⟩, at_ + k, 8) else (s.extract (at_ + k) (at_ + k + n), at_ + k + n, 0)
    | .inr x => (⟨#[]⟩, at_, x)
  else (⟨#[]⟩, at_, e)
theorem rtext_any (g : Nat) (s : ByteArray) (at_ : Nat) (e most : Int) (w : World) (hb : Blk w g 135 (RB s at_ e)) (hat : at_ ≤ s.size) (hs : s.size ≤ 140737488351232) :
    Calls Tryz.prog 165 #[.pointer (some ⟨g, 0, none⟩), .int .i64 most] w fun r w' => r = .returned (.string (rText s at_ e most).1) ∧ Blk w' g 135 (RB s (rText s at_ e most).2.1 (rText s at_ e most).2.2) ∧ Touch (· = g) w w' := by
  have hc2 := hb.cell 2
  simp [RB] at hc2
  generalize hT : rText s at_ e most = T
  unfold rText at hT
  by_cases he : e = 0
  · subst he
    rw [if_pos rfl] at hT
    have HN := Lib.hid (number_walk g s at_ 0 most w hb hat hs)
    have HI := rdN_in s at_ 0 most 9 0 0
    generalize rdN s at_ 0 most 9 0 0 = res at *
    go_enter_defers Tryz.func165, Tryz.ntmps165
    go_wp2_with fail
    refine HN.out.mono ?_
    cases res with
    | inl p =>
      obtain ⟨n, k⟩ := p
      obtain ⟨i1, _, i2, i3, _, i4⟩ := HI n k (by simp) (by simp) rfl
      clear HI
      rintro r w1 ⟨rfl, hb1, ht1⟩
      simp only at hb1 hT
      generalize at_ + k = at2 at *
      have hc10 := hb1.cell 0
      have hc11 := hb1.cell 1
      have hf11 := hb1.frozen 1
      simp at hc10 hc11
      by_cases hsz : s.size < at2 + n
      · rw [if_pos hsz] at hT
        subst hT
        have hd : decide ((s.size : Int) - ((at2 : Nat) : Int) < (n : Int)) = true := by simp; omega
        have hwr : IntKind.i64.wrap ((s.size : Int) - ((at2 : Nat) : Int)) = (s.size : Int) - ((at2 : Nat) : Int) := by rw [IntKind.wrap_i64]; omega
        go_wp2_with fail
        go_quiet (fail)
        go_wp2_with fail
        refine leaves_cons (f := 130) (args := #[.pointer (some ⟨g, 0, none⟩)]) (by simp) (by simp [go_sem]) ?_
        refine (caught_panicking g at2 8 [] s at2 _ (hb1.drewN _)).mono ?_
        rintro e u' w'' ⟨rfl, rfl, hb2, ht2⟩
        simp [Leaves, settle, results, Tryz.results165, go_sem, RB]
        exact ⟨hb2, (ht1.drewN _).trans ht2 (fun _ _ h => h)⟩
      · have hd : decide ((s.size : Int) - ((at2 : Nat) : Int) < (n : Int)) = false := by simp; omega
        rw [if_neg hsz] at hT
        subst hT
        have hwr : IntKind.i64.wrap ((s.size : Int) - ((at2 : Nat) : Int)) = (s.size : Int) - ((at2 : Nat) : Int) := by rw [IntKind.wrap_i64]; omega
        have hwr2 : IntKind.i64.wrap ((at2 : Int) + (n : Int)) = (at2 : Int) + (n : Int) := by rw [IntKind.wrap_i64]; omega
        have hsl : ∀ W, (Instr.slice 9 (.string s) (some (.int .i64 (at2 : Int))) (some (.int .i64 ((at2 : Int) + (n : Int)))) none).run Tryz.prog W = .ok (.string (s.extract at2 (at2 + n))) W := fun W => by
          rw [run_slice_string (h := Tryz.underlying9) (h0 := by omega) (h1 := by omega) (h2 := by omega)]
          rfl
        go_wp2_with fail
        go_quiet (fail)
        go_wp2_with fail
        go_quiet (fail)
        go_wp2_with fail
        refine leaves_cons (f := 130) (args := #[.pointer (some ⟨g, 0, none⟩)]) (by simp) (by simp [go_sem]) ?_
        refine (caught_idle g _).mono ?_
        rintro e u' w'' ⟨rfl, rfl, rfl⟩
        simp [Leaves, settle, results, Tryz.results165, go_sem, RB]
        exact ⟨(hb1.drewN _).set_ 1 _, Touch.setCell (F := fun x => x = g) (ht1.drewN _) (p := ⟨g, 1, none⟩) (fun _ => rfl) _⟩
    | inr x =>
      rintro r w1 ⟨rfl, hb1, ht1⟩
      subst hT
      go_wp2_with fail
      refine leaves_cons (f := 130) (args := #[.pointer (some ⟨g, 0, none⟩)]) (by simp) (by simp [go_sem]) ?_
      refine (caught_panicking g at_ x [] s at_ _ hb1).mono ?_
      rintro e u' w'' ⟨rfl, rfl, hb2, ht2⟩
      simp [Leaves, settle, results, Tryz.results165, go_sem, RB]
      exact ⟨hb2, ht1.trans ht2 (fun _ _ h => h)⟩
  · rw [if_neg he] at hT
    subst hT
    have hne : (e == 0) = false := by simpa using he
    have hne' : (e != 0) = true := by simp [bne, he]
    go_enter_defers Tryz.func165, Tryz.ntmps165
    go_wp2_with fail
    simp [bodyPostD, Leaves, results, Tryz.results165, go_sem]
    exact ⟨hb, .refl _ _⟩
end Go.Proofs.YtdpjjnbelgaagaaGreatDoor
