/- Whether two rich dependencies are the same: shape.Same, the document's. Conditions: as each theorem names them. -/
import Derived.Test.YtadogjnoklabdaaDoorH16
namespace Go.Proofs.YtadogjnoklabdaaDoor
open Go.ChangeShapes Go.WideShapes Go.ChangeAt Go.RowKit Go.Deep
set_option maxRecDepth 100000

def depSame (a b : DepD) : Bool := decide (a.name.toList = b.name.toList) && (decide (a.op = b.op) && (decide (a.ep = b.ep) && (decide (a.ver.toList = b.ver.toList) && decide (a.rel.toList = b.rel.toList))))
theorem bytes_eq {a b : ByteArray} (h : a.toList = b.toList) : a = b := by
  rw [ByteArray.toList_eq, ByteArray.toList_eq] at h
  rcases a with ⟨⟨a⟩⟩
  rcases b with ⟨⟨b⟩⟩
  simp only at h
  rw [h]
theorem depSame_iff {a b : DepD} : depSame a b = true ↔ a = b := by
  rcases a with ⟨a0, a1, a2, a3, a4⟩
  rcases b with ⟨b0, b1, b2, b3, b4⟩
  simp only [depSame, Bool.and_eq_true, decide_eq_true_eq, DepD.mk.injEq]
  exact ⟨fun ⟨h0, h1, h2, h3, h4⟩ => ⟨bytes_eq h0, h1, h2, bytes_eq h3, bytes_eq h4⟩, fun ⟨h0, h1, h2, h3, h4⟩ => ⟨congrArg _ h0, h1, h2, congrArg _ h3, congrArg _ h4⟩⟩
def allN (p : Nat → Bool) : Nat → Bool | 0 => true | k + 1 => allN p k && p k
def sameE : RichD → RichD → Bool
  | .nil, b => decide (b.kind = 0) && (depSame noDep b.dep && decide (b.n = 0))
  | .node k d n f, b => decide (k = b.kind) && (depSame d b.dep && (decide (n = b.n) && allN (fun j => sameE (f j) (b.args j)) n))
theorem same_eq (a b : RichD) : sameE a b = (decide (a.kind = b.kind) && (depSame a.dep b.dep && (decide (a.n = b.n) && allN (fun j => sameE (a.args j) (b.args j)) a.n))) := by
  cases a with
  | nil =>
    show (decide (b.kind = 0) && (depSame noDep b.dep && decide (b.n = 0))) = (decide (0 = b.kind) && (depSame noDep b.dep && (decide (0 = b.n) && true)))
    rw [Bool.and_true, decide_eq_decide.2 (eq_comm (a := b.kind) (b := 0)), decide_eq_decide.2 (eq_comm (a := b.n) (b := 0))]
  | node k d n f => rfl

theorem same_kind {a b : RichD} (h : ¬ a.kind = b.kind) : sameE a b = false := by rw [same_eq, decide_eq_false h]; rfl
theorem same_dep {a b : RichD} (h : depSame a.dep b.dep = false) : sameE a b = false := by rw [same_eq, h, Bool.false_and, Bool.and_false]
theorem dep_name {a b : DepD} (h : ¬ a.name.toList = b.name.toList) : depSame a b = false := by unfold depSame; rw [decide_eq_false h]; rfl
theorem dep_op {a b : DepD} (h : ¬ a.op = b.op) : depSame a b = false := by unfold depSame; rw [decide_eq_false h]; simp
theorem dep_ep {a b : DepD} (h : ¬ a.ep = b.ep) : depSame a b = false := by unfold depSame; rw [decide_eq_false h]; simp
theorem dep_ver {a b : DepD} (h : ¬ a.ver.toList = b.ver.toList) : depSame a b = false := by unfold depSame; rw [decide_eq_false h]; simp
theorem dep_rel {a b : DepD} (h : ¬ a.rel.toList = b.rel.toList) : depSame a b = false := by unfold depSame; rw [decide_eq_false h]; simp
theorem dep_all {a b : DepD} (h0 : a.name.toList = b.name.toList) (h1 : a.op = b.op) (h2 : a.ep = b.ep) (h3 : a.ver.toList = b.ver.toList) (h4 : a.rel.toList = b.rel.toList) : depSame a b = true := by
  unfold depSame
  rw [decide_eq_true h0, decide_eq_true h1, decide_eq_true h2, decide_eq_true h3, decide_eq_true h4]
  rfl
theorem new_b (w : World) (o : Obj) : Below w.heap.size w (w.alloc o) := (Below.refl _ w).alloc (Nat.le_refl _) _
theorem below_t' {A B C : World} (h : Below A.heap.size A B) (k : Below B.heap.size B C) : Below A.heap.size A C := h.trans (k.mono h.size)
/-- The rest of the question, where kinds and Deps are the same. -/
def argsE (a b : RichD) : Bool := decide (a.n = b.n) && allN (fun j => sameE (a.args j) (b.args j)) a.n
theorem same_rest {a b : RichD} (hk : a.kind = b.kind) (hd : depSame a.dep b.dep = true) : sameE a b = argsE a b := by rw [same_eq, decide_eq_true hk, hd]; rfl
theorem allN_no {p : Nat → Bool} {k : Nat} : ∀ n, k < n → p k = false → allN p n = false
  | 0, h, _ => by omega
  | n + 1, h, hp => by
    simp only [allN]
    by_cases e : k = n
    · rw [← e, hp, Bool.and_false]
    · rw [allN_no n (by omega) hp, Bool.false_and]
theorem IsArgs.elems2 {w : World} {r : RichD} {a : Option Addr} {c : Nat} (h : IsArgs w r (.slice a r.n c)) : ∃ S : Nat → Value, (∀ j, j < r.n → ∃ b o, a = some ⟨b, o, none⟩ ∧ RichAt w b (o + j * 7) (r.args j) (S j)) ∧ ∀ j, j < r.n → IsArgs w (r.args j) (S j) := by
  obtain ⟨r, a, c, S, hd, hn, hA, hS⟩ := h
  exact ⟨S, hA, hS⟩
theorem IsArgs.bound {w : World} {r : RichD} {s : Value} (h : IsArgs w r s) : r.n ≤ 9223372036854775807 := by
  cases h
  assumption

set_option maxHeartbeats 4000000 in
/-- EqualFunc, the function's contract at each pair being a premise. -/
theorem eqf_any (W : World) (r r2 : RichD) (a a2 : Option Addr) (c c2 : Nat) (hs : IsArgs W r (.slice a r.n c)) (hs2 : IsArgs W r2 (.slice a2 r2.n c2)) (w : World) (hB : Below W.heap.size W w)
    (ih : ∀ j, j < r.n → ∀ (S S2 : Value) (w' : World), IsArgs W (r.args j) S → IsArgs W (r2.args j) S2 → Below W.heap.size W w' →
      Calls Tryd.prog 18 #[(r.args j).val S, (r2.args j).val S2] w' fun e w'' => e = .returned (.bool (sameE (r.args j) (r2.args j))) ∧ Below w'.heap.size w' w'') :
    Calls Tryd.prog 32 #[.slice a r.n c, .slice a2 r2.n c2, .func (.func 18) #[] #[]] w fun e w' => e = .returned (.bool (argsE r r2)) ∧ Below w.heap.size w w' := by
  have hn := hs.bound
  have hn2 := hs2.bound
  obtain ⟨S, hA, hS⟩ := hs.elems2
  obtain ⟨S2, hA2, hS2⟩ := hs2.elems2
  have HB0 := Below.refl w.heap.size w
  obtain ⟨T, hT⟩ : ∃ T, T = argsE r r2 := ⟨_, rfl⟩
  rw [← hT]
  unfold argsE at hT
  by_cases hnn : r.n = r2.n
  · rw [decide_eq_true hnn, Bool.true_and] at hT
    have HT := Lib.hid hT
    have HE := Lib.hid (show ∀ w', Below W.heap.size W w' → ∀ j, j < r.n → (∃ b o, a = some ⟨b, o, none⟩ ∧ RichAt w' b (o + j * 7) (r.args j) (S j)) ∧ ∃ b o, a2 = some ⟨b, o, none⟩ ∧ RichAt w' b (o + j * 7) (r2.args j) (S2 j) from fun w' h j hj => by
      obtain ⟨b, o, h1, h2⟩ := hA j hj
      obtain ⟨b', o', h3, h4⟩ := hA2 j (by omega)
      exact ⟨⟨b, o, h1, h2.below h⟩, b', o', h3, h4.below h⟩)
    have HI := Lib.hid (show ∀ j, j < r.n → ∀ w', Below W.heap.size W w' → Calls Tryd.prog 18 #[(r.args j).val (S j), (r2.args j).val (S2 j)] w' fun e w'' => e = .returned (.bool (sameE (r.args j) (r2.args j))) ∧ Below w'.heap.size w' w'' from fun j hj w' h => ih j hj _ _ w' (hS j hj) (hS2 j (by omega)) h)
    have HSf := Lib.hid (show ∀ j, j < r.n → (∃ a' c', S j = .slice a' (r.args j).n c') ∧ ∃ a' c', S2 j = .slice a' (r2.args j).n c' from fun j hj => ⟨(hS j hj).form, (hS2 j (by omega)).form⟩)
    have HBW := Lib.hid hB
    have HNN := Lib.hid hnn
    have hn3 : (r2.n : Int) = (r.n : Int) := by omega
    rw [← hnn]
    clear hT hA hA2 hS hS2 hs hs2 ih hB hn3 hn2 hnn
    go_enter Tryd.func32, Tryd.ntmps32
    go_wp2_with fail
    go_loopw [17] (fun i wr => ∃ k : Nat, k ≤ r.n ∧ i = .int .i64 k ∧ Hid (allN (fun j => sameE (r.args j) (r2.args j)) k = true) ∧ Hid (Below w.heap.size w wr)) (fun i wr => r.n - (intOf i).toNat)
    case atStart => exact ⟨0, by omega, rfl, Lib.hid rfl, Lib.hid HB0⟩
    case round =>
      obtain ⟨k, hk, rfl, HQ, HBk⟩ := hrel
      by_cases hlt : k < r.n
      · have hki : (k : Int) < (r.n : Int) := by omega
        have HB2 := Lib.hid (HBW.out.trans (HBk.out.mono HBW.out.size))
        obtain ⟨⟨b, o, ha, e0, e1, e2, e3, e4, e5, e6, e7⟩, b', o', ha', f0, f1, f2, f3, f4, f5, f6, f7⟩ := HE.out wr HB2.out k hlt
        subst ha
        subst ha'
        obtain ⟨⟨xa, xc, hx⟩, ya, yc, hy⟩ := HSf.out k hlt
        obtain ⟨w2, hw2⟩ : ∃ w2, w2 = (wr.alloc (richObj (r.args k) (S k))).alloc (richObj (r2.args k) (S2 k)) := ⟨_, rfl⟩
        have hbn : Below wr.heap.size wr w2 := by rw [hw2]; exact below_t' (new_b _ _) (new_b _ _)
        have HB3 := Lib.hid (HBk.out.trans (hbn.mono HBk.out.size))
        have HM := Lib.hid (HI.out k hlt w2 (HB2.out.trans (hbn.mono HB2.out.size)))
        have HBn := Lib.hid hbn
        rw [hw2] at HM HB3
        simp only [hx, hy] at HM HB3 e6 f6
        clear hw2 hbn
        obtain ⟨bb, hbb⟩ : ∃ bb, bb = sameE (r.args k) (r2.args k) := ⟨_, rfl⟩
        rw [← hbb] at HM
        have HBb := Lib.hid hbb
        clear hbb
        cases bb with
        | true =>
          go_wp2_with (first
            | (go_at_call 18; (with_reducible refine (HM.out).mono ?_); rintro e w1 ⟨rfl, HBc⟩; have HB1 := Lib.hid (HB3.out.trans (HBc.mono HB3.out.size)); clear HBc)
            | fail)
          go_roundw
          case rel => exact ⟨k + 1, by omega, by go_num, Lib.hid (by simp only [allN]; rw [HQ.out, ← HBb.out]; rfl), HB1⟩
          case measure => simp [intOf]; omega
        | false =>
          have HT2 := Lib.hid (show T = false by rw [HT.out]; exact allN_no r.n hlt HBb.out.symm)
          go_wp2_with (first
            | (go_at_call 18; (with_reducible refine (HM.out).mono ?_); rintro e w1 ⟨rfl, HBc⟩; have HB1 := Lib.hid (HB3.out.trans (HBc.mono HB3.out.size)); clear HBc)
            | fail)
          go_ret
          exact ⟨ret_bool HT2.out.symm, HB1.out⟩
      · obtain rfl : k = r.n := by omega
        have HT2 := Lib.hid (show T = true by rw [HT.out]; exact HQ.out)
        go_wp2_with fail
        go_ret
        exact ⟨ret_bool HT2.out.symm, HBk.out⟩
  · rw [decide_eq_false hnn, Bool.false_and] at hT
    subst hT
    have h1 : ¬ (r.n : Int) = (r2.n : Int) := by omega
    clear hA hA2 hS hS2 hs hs2 ih hB
    go_enter Tryd.func32, Tryd.ntmps32
    go_wp2_with fail
    go_ret
    exact ⟨rfl, HB0⟩

set_option maxHeartbeats 4000000 in
theorem same_any (W : World) (r : RichD) : ∀ (s : Value) (r2 : RichD) (s2 : Value) (w : World), IsArgs W r s → IsArgs W r2 s2 → Below W.heap.size W w →
    Calls Tryd.prog 18 #[r.val s, r2.val s2] w fun e w' => e = .returned (.bool (sameE r r2)) ∧ Below w.heap.size w w' := by
  have step : ∀ (r : RichD) (s : Value) (r2 : RichD) (s2 : Value) (w : World), IsArgs W r s → IsArgs W r2 s2 → Below W.heap.size W w →
      (∀ j, j < r.n → ∀ (s : Value) (r2 : RichD) (s2 : Value) (w : World), IsArgs W (r.args j) s → IsArgs W r2 s2 → Below W.heap.size W w → Calls Tryd.prog 18 #[(r.args j).val s, r2.val s2] w fun e w' => e = .returned (.bool (sameE (r.args j) r2)) ∧ Below w.heap.size w w') →
      Calls Tryd.prog 18 #[r.val s, r2.val s2] w fun e w' => e = .returned (.bool (sameE r r2)) ∧ Below w.heap.size w w' := by
    intro r s r2 s2 w hs hs2 hB ih
    obtain ⟨a, c, rfl⟩ := hs.form
    obtain ⟨a2, c2, rfl⟩ := hs2.form
    obtain ⟨T, hT⟩ : ∃ T, T = sameE r r2 := ⟨_, rfl⟩
    rw [← hT]
    have HT := Lib.hid hT
    have HB0 := Lib.hid (show ∀ o1 o2, Below w.heap.size w ((w.alloc o1).alloc o2) from fun o1 o2 => below_t' (new_b _ _) (new_b _ _))
    have HQ := Lib.hid (fun (w' : World) (h : Below W.heap.size W w') => eqf_any W r r2 a a2 c c2 hs hs2 w' h (fun j hj S S2 w'' h1 h2 h3 => ih j hj S (r2.args j) S2 w'' h1 h2 h3))
    have HBW := Lib.hid hB
    clear hT hs hs2 hB ih
    unfold RichD.val richV
    go_enter Tryd.func18, Tryd.ntmps18
    go_wp2_with (first
      | (go_at_call 32; (with_reducible refine (HQ.out _ (HBW.out.trans ((HB0.out _ _).mono HBW.out.size))).mono ?_); rintro e wx ⟨rfl, HBc⟩; have HBx := Lib.hid (below_t' (HB0.out _ _) HBc); clear HBc)
      | fail)
    all_goals
      go_ret
      first
        | exact ⟨ret_bool ((HT.out.trans (same_rest (by assumption) (dep_all (by assumption) (by assumption) (by assumption) (by assumption) (by assumption)))).symm), HBx.out⟩
        | exact ⟨ret_bool ((HT.out.trans (same_dep (dep_rel (by assumption)))).symm), HB0.out _ _⟩
        | exact ⟨ret_bool ((HT.out.trans (same_dep (dep_ver (by assumption)))).symm), HB0.out _ _⟩
        | exact ⟨ret_bool ((HT.out.trans (same_dep (dep_ep (by assumption)))).symm), HB0.out _ _⟩
        | exact ⟨ret_bool ((HT.out.trans (same_dep (dep_op (by assumption)))).symm), HB0.out _ _⟩
        | exact ⟨ret_bool ((HT.out.trans (same_dep (dep_name (by assumption)))).symm), HB0.out _ _⟩
        | exact ⟨ret_bool ((HT.out.trans (same_kind (by assumption))).symm), HB0.out _ _⟩
  induction r with
  | nil => exact fun s r2 s2 w h1 h2 h3 => step .nil s r2 s2 w h1 h2 h3 (fun j hj => absurd hj (Nat.not_lt_zero j))
  | node k d n f ih => exact fun s r2 s2 w h1 h2 h3 => step (.node k d n f) s r2 s2 w h1 h2 h3 (fun j _ => ih j)
end Go.Proofs.YtadogjnoklabdaaDoor
