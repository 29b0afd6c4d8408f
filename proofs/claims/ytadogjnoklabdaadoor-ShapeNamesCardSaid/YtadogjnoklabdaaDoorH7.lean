/- Dependencies: dep.May and the document's. Conditions: as each theorem names them. -/
import Derived.Test.YtadogjnoklabdaaDoorH6
namespace Go.Proofs.YtadogjnoklabdaaDoor
open Go.ChangeShapes Go.WideShapes Go.ChangeAt Go.RowKit Go.Deep
set_option maxRecDepth 100000

/-- A dependency in plain words. -/
structure DepD where
  name : ByteArray
  op : Int
  ep : Int
  ver : ByteArray
  rel : ByteArray
def DepD.zero (d : DepD) : Bool := decide (d.ep = 0) && (d.ver.toList.isEmpty && d.rel.toList.isEmpty)
def DepD.fit (d : DepD) : Prop := d.name.size ≤ 9223372036854775807 ∧ d.ver.size ≤ 9223372036854775807 ∧ d.rel.size ≤ 9223372036854775807
def depE (d : DepD) : Bool := nameE d.name && (mayOp d.op && (if d.op = 0 then d.zero else !fileE d.name && evrE d.ep d.ver d.rel true))
/-- A dependency's value. -/
abbrev DepD.val (d : DepD) : Value := .agg #[.string d.name, .int .u8 d.op, .int .i64 d.ep, .string d.ver, .string d.rel]

/-- The parameter's block stands at n. -/
structure DepAt (n : Nat) (d : DepD) (w : World) : Prop where
  c0 : w.cell? ⟨n, 0, none⟩ = some (.string d.name)
  c1 : w.cell? ⟨n, 1, none⟩ = some (.int .u8 d.op)
  c2 : w.cell? ⟨n, 2, none⟩ = some (.int .i64 d.ep)
  c3 : w.cell? ⟨n, 3, none⟩ = some (.string d.ver)
  c4 : w.cell? ⟨n, 4, none⟩ = some (.string d.rel)
  lt : n < w.heap.size
theorem DepAt.below {n : Nat} {d : DepD} {w w' : World} (h : DepAt n d w) (hb : Below w.heap.size w w') : DepAt n d w' := by
  have k : ∀ c, w'.cell? ⟨n, c, none⟩ = w.cell? ⟨n, c, none⟩ := fun c => World.cell?_of_block (w := w) (hb.block n h.lt)
  exact ⟨(k _).trans h.c0, (k _).trans h.c1, (k _).trans h.c2, (k _).trans h.c3, (k _).trans h.c4, Nat.lt_of_lt_of_le h.lt hb.size⟩

theorem zero_yes {d : DepD} (h1 : d.ep = 0) (h2 : d.ver.toList = []) (h3 : d.rel.toList = []) : d.zero = true := by unfold DepD.zero; rw [h1, h2, h3]; rfl
theorem zero_ep {d : DepD} (h1 : ¬ d.ep = 0) : d.zero = false := by unfold DepD.zero; rw [decide_eq_false h1]; rfl
theorem zero_ver {d : DepD} (h1 : ¬ d.ver.toList = []) : d.zero = false := by
  unfold DepD.zero
  have : d.ver.toList.isEmpty = false := by cases h : d.ver.toList with | nil => exact absurd h h1 | cons => rfl
  rw [this]; simp
theorem zero_rel {d : DepD} (h1 : ¬ d.rel.toList = []) : d.zero = false := by
  unfold DepD.zero
  have : d.rel.toList.isEmpty = false := by cases h : d.rel.toList with | nil => exact absurd h h1 | cons => rfl
  rw [this]; simp

set_option maxHeartbeats 4000000 in
theorem depmay_any (d : DepD) (w : World) (hf : d.fit) (hW : Words w) (hO : Ops w) : Calls Tryd.prog 31 #[d.val] w fun e w' => e = .returned (.bool (depE d)) ∧ Below w.heap.size w w' := by
  obtain ⟨T, hT⟩ : ∃ T, T = depE d := ⟨_, rfl⟩
  rw [← hT]
  rcases d with ⟨s, op, ep, ver, rel⟩
  obtain ⟨f1, f2, f3⟩ := hf
  have HB0 := Lib.hid (show Below w.heap.size w (w.alloc (.cells #[.string s, .int .u8 op, .int .i64 ep, .string ver, .string rel] 25)) from (Below.refl _ _).alloc (Nat.le_refl _) _)
  have HA0 := Lib.hid (show DepAt w.heap.size ⟨s, op, ep, ver, rel⟩ (w.alloc (.cells #[.string s, .int .u8 op, .int .i64 ep, .string ver, .string rel] 25)) from ⟨by simp, by simp, by simp, by simp, by simp, by simp⟩)
  have HW0 := Lib.hid (hW.below HB0.out)
  have HO0 := Lib.hid (hO.below HB0.out)
  have HN := Lib.hid (fun w (h : Words w) => name_any s w f1 h)
  have HM := Lib.hid (fun w (h : Ops w) => spanmay_any op w h)
  have HF := Lib.hid (fun w (h : Words w) => file_any s w f1 h)
  have HE := Lib.hid (fun w => evr_any ep ver rel true w f2 f3)
  unfold depE at hT
  clear hW hO f1 f2 f3
  cases hn : nameE s with
  | false =>
    simp only [hn, Bool.false_and] at hT HN
    subst hT
    clear hn
    go_enter Tryd.func31, Tryd.ntmps31
    go_wp2_with (first
      | (go_at_call 36; (with_reducible refine (HN.out _ HW0.out).mono ?_); rintro e w1 ⟨rfl, HBc1⟩; have HB1 := Lib.hid (HB0.out.trans (HBc1.mono HB0.out.size)); clear HBc1)
      | fail)
    go_ret
    exact ⟨rfl, HB1.out⟩
  | true =>
    simp only [hn, Bool.true_and] at hT HN
    cases hm : mayOp op with
    | false =>
      simp only [hm, Bool.false_and] at hT HM
      subst hT
      clear hn hm
      go_enter Tryd.func31, Tryd.ntmps31
      go_wp2_with (first
        | (go_at_call 36; (with_reducible refine (HN.out _ HW0.out).mono ?_); rintro e w1 ⟨rfl, HBc1⟩; have HB1 := Lib.hid (HB0.out.trans (HBc1.mono HB0.out.size)); have HA1 := Lib.hid (HA0.out.below HBc1); have HO1 := Lib.hid (HO0.out.below HBc1); have HW1 := Lib.hid (HW0.out.below HBc1); obtain ⟨c10, c11, c12, c13, c14, _⟩ := HA1.out; clear HBc1)
        | (go_at_call 37; (with_reducible refine (HM.out _ HO1.out).mono ?_); rintro e w2 ⟨rfl, HBc2⟩; have HB2 := Lib.hid (HB1.out.trans (HBc2.mono HB1.out.size)); clear HBc2)
        | fail)
      go_ret
      exact ⟨rfl, HB2.out⟩
    | true =>
      simp only [hm, Bool.true_and] at hT HM
      by_cases ho : op = 0
      · rw [if_pos ho] at hT
        subst ho
        have HT := Lib.hid hT
        clear hn hm hT
        go_enter Tryd.func31, Tryd.ntmps31
        go_wp2_with (first
          | (go_at_call 36; (with_reducible refine (HN.out _ HW0.out).mono ?_); rintro e w1 ⟨rfl, HBc1⟩; have HB1 := Lib.hid (HB0.out.trans (HBc1.mono HB0.out.size)); have HA1 := Lib.hid (HA0.out.below HBc1); have HO1 := Lib.hid (HO0.out.below HBc1); have HW1 := Lib.hid (HW0.out.below HBc1); obtain ⟨c10, c11, c12, c13, c14, _⟩ := HA1.out; clear HBc1)
          | (go_at_call 37; (with_reducible refine (HM.out _ HO1.out).mono ?_); rintro e w2 ⟨rfl, HBc2⟩; have HB2 := Lib.hid (HB1.out.trans (HBc2.mono HB1.out.size)); have HA2 := Lib.hid (HA1.out.below HBc2); have HO2 := Lib.hid (HO1.out.below HBc2); have HW2 := Lib.hid (HW1.out.below HBc2); obtain ⟨c20, c21, c22, c23, c24, _⟩ := HA2.out; clear HBc2)
          | fail)
        all_goals
          go_ret
          first | exact ⟨ret_bool (HT.out.trans (zero_yes (by assumption) (by assumption) (by assumption))).symm, HB2.out⟩ | exact ⟨ret_bool (HT.out.trans (zero_ep (by assumption))).symm, HB2.out⟩ | exact ⟨ret_bool (HT.out.trans (zero_ver (by assumption))).symm, HB2.out⟩ | exact ⟨ret_bool (HT.out.trans (zero_rel (by assumption))).symm, HB2.out⟩
      · rw [if_neg ho] at hT
        have hd : (op == 0) = false := by simpa using ho
        cases hfl : fileE s with
        | true =>
          simp only [hfl, Bool.not_true, Bool.false_and] at hT HF
          subst hT
          clear hn hm ho hfl
          go_enter Tryd.func31, Tryd.ntmps31
          go_wp2_with (first
            | (go_at_call 36; (with_reducible refine (HN.out _ HW0.out).mono ?_); rintro e w1 ⟨rfl, HBc1⟩; have HB1 := Lib.hid (HB0.out.trans (HBc1.mono HB0.out.size)); have HA1 := Lib.hid (HA0.out.below HBc1); have HO1 := Lib.hid (HO0.out.below HBc1); have HW1 := Lib.hid (HW0.out.below HBc1); obtain ⟨c10, c11, c12, c13, c14, _⟩ := HA1.out; clear HBc1)
            | (go_at_call 37; (with_reducible refine (HM.out _ HO1.out).mono ?_); rintro e w2 ⟨rfl, HBc2⟩; have HB2 := Lib.hid (HB1.out.trans (HBc2.mono HB1.out.size)); have HA2 := Lib.hid (HA1.out.below HBc2); have HO2 := Lib.hid (HO1.out.below HBc2); have HW2 := Lib.hid (HW1.out.below HBc2); obtain ⟨c20, c21, c22, c23, c24, _⟩ := HA2.out; clear HBc2)
            | (go_at_call 38; (with_reducible refine (HF.out _ HW2.out).mono ?_); rintro e w3 ⟨rfl, HBc3⟩; have HB3 := Lib.hid (HB2.out.trans (HBc3.mono HB2.out.size)); clear HBc3)
            | fail)
          go_ret
          exact ⟨rfl, HB3.out⟩
        | false =>
          simp only [hfl, Bool.not_false, Bool.true_and] at hT HF
          subst hT
          clear hn hm ho hfl
          go_enter Tryd.func31, Tryd.ntmps31
          go_wp2_with (first
            | (go_at_call 36; (with_reducible refine (HN.out _ HW0.out).mono ?_); rintro e w1 ⟨rfl, HBc1⟩; have HB1 := Lib.hid (HB0.out.trans (HBc1.mono HB0.out.size)); have HA1 := Lib.hid (HA0.out.below HBc1); have HO1 := Lib.hid (HO0.out.below HBc1); have HW1 := Lib.hid (HW0.out.below HBc1); obtain ⟨c10, c11, c12, c13, c14, _⟩ := HA1.out; clear HBc1)
            | (go_at_call 37; (with_reducible refine (HM.out _ HO1.out).mono ?_); rintro e w2 ⟨rfl, HBc2⟩; have HB2 := Lib.hid (HB1.out.trans (HBc2.mono HB1.out.size)); have HA2 := Lib.hid (HA1.out.below HBc2); have HO2 := Lib.hid (HO1.out.below HBc2); have HW2 := Lib.hid (HW1.out.below HBc2); obtain ⟨c20, c21, c22, c23, c24, _⟩ := HA2.out; clear HBc2)
            | (go_at_call 38; (with_reducible refine (HF.out _ HW2.out).mono ?_); rintro e w3 ⟨rfl, HBc3⟩; have HB3 := Lib.hid (HB2.out.trans (HBc3.mono HB2.out.size)); have HA3 := Lib.hid (HA2.out.below HBc3); have HO3 := Lib.hid (HO2.out.below HBc3); have HW3 := Lib.hid (HW2.out.below HBc3); obtain ⟨c30, c31, c32, c33, c34, _⟩ := HA3.out; clear HBc3)
            | (go_at_call 39; (with_reducible refine (HE.out _).mono ?_); rintro e w4 ⟨rfl, HBc4⟩; have HB4 := Lib.hid (HB3.out.trans (HBc4.mono HB3.out.size)); clear HBc4)
            | fail)
          go_ret
          exact ⟨rfl, HB4.out⟩

set_option maxHeartbeats 4000000 in
theorem rdepmay_any (d : DepD) (w : World) (hf : d.fit) : Calls Tryd.prog 40 #[d.val] w fun e w' => e = .returned (.bool (depE d)) ∧ Below w.heap.size w w' := by
  obtain ⟨T, hT⟩ : ∃ T, T = depE d := ⟨_, rfl⟩
  rw [← hT]
  rcases d with ⟨s, op, ep, ver, rel⟩
  obtain ⟨f1, f2, f3⟩ := hf
  have HB0 := Lib.hid (show Below w.heap.size w (w.alloc (.cells #[.string s, .int .u8 op, .int .i64 ep, .string ver, .string rel] 25)) from (Below.refl _ _).alloc (Nat.le_refl _) _)
  have HA0 := Lib.hid (show DepAt w.heap.size ⟨s, op, ep, ver, rel⟩ (w.alloc (.cells #[.string s, .int .u8 op, .int .i64 ep, .string ver, .string rel] 25)) from ⟨by simp, by simp, by simp, by simp, by simp, by simp⟩)
  have HN := Lib.hid (fun w => rname_any s w f1)
  have HM := Lib.hid (fun w => rspanmay_any op w)
  have HF := Lib.hid (fun w => rfile_any s w f1)
  have HE := Lib.hid (fun w => revr_any ep ver rel true w f2 f3)
  unfold depE at hT
  clear f1 f2 f3
  cases hn : nameE s with
  | false =>
    simp only [hn, Bool.false_and] at hT HN
    subst hT
    clear hn
    go_enter Tryd.func40, Tryd.ntmps40
    go_wp2_with (first
      | (go_at_call 45; (with_reducible refine (HN.out _).mono ?_); rintro e w1 ⟨rfl, hw1⟩; subst hw1)
      | fail)
    go_ret
    exact ⟨rfl, HB0.out⟩
  | true =>
    simp only [hn, Bool.true_and] at hT HN
    cases hm : mayOp op with
    | false =>
      simp only [hm, Bool.false_and] at hT HM
      subst hT
      clear hn hm
      go_enter Tryd.func40, Tryd.ntmps40
      go_wp2_with (first
        | (go_at_call 45; (with_reducible refine (HN.out _).mono ?_); rintro e w1 ⟨rfl, hw1⟩; subst hw1)
        | (go_at_call 46; (with_reducible refine (HM.out _).mono ?_); rintro e w1 ⟨rfl, HBc1⟩; have HB1 := Lib.hid (HB0.out.trans (HBc1.mono HB0.out.size)); clear HBc1)
        | fail)
      go_ret
      exact ⟨rfl, HB1.out⟩
    | true =>
      simp only [hm, Bool.true_and] at hT HM
      by_cases ho : op = 0
      · rw [if_pos ho] at hT
        subst ho
        have HT := Lib.hid hT
        clear hn hm hT
        go_enter Tryd.func40, Tryd.ntmps40
        go_wp2_with (first
          | (go_at_call 45; (with_reducible refine (HN.out _).mono ?_); rintro e w1 ⟨rfl, hw1⟩; subst hw1)
          | (go_at_call 46; (with_reducible refine (HM.out _).mono ?_); rintro e w1 ⟨rfl, HBc1⟩; have HB1 := Lib.hid (HB0.out.trans (HBc1.mono HB0.out.size)); have HA1 := Lib.hid (HA0.out.below HBc1); obtain ⟨c10, c11, c12, c13, c14, _⟩ := HA1.out; clear HBc1)
          | fail)
        all_goals
          go_ret
          first | exact ⟨ret_bool (HT.out.trans (zero_yes (by assumption) (by assumption) (by assumption))).symm, HB1.out⟩ | exact ⟨ret_bool (HT.out.trans (zero_ep (by assumption))).symm, HB1.out⟩ | exact ⟨ret_bool (HT.out.trans (zero_ver (by assumption))).symm, HB1.out⟩ | exact ⟨ret_bool (HT.out.trans (zero_rel (by assumption))).symm, HB1.out⟩
      · rw [if_neg ho] at hT
        have hd : (op == 0) = false := by simpa using ho
        cases hfl : fileE s with
        | true =>
          simp only [hfl, Bool.not_true, Bool.false_and] at hT HF
          subst hT
          clear hn hm ho hfl
          go_enter Tryd.func40, Tryd.ntmps40
          go_wp2_with (first
            | (go_at_call 45; (with_reducible refine (HN.out _).mono ?_); rintro e w1 ⟨rfl, hw1⟩; subst hw1)
            | (go_at_call 46; (with_reducible refine (HM.out _).mono ?_); rintro e w1 ⟨rfl, HBc1⟩; have HB1 := Lib.hid (HB0.out.trans (HBc1.mono HB0.out.size)); have HA1 := Lib.hid (HA0.out.below HBc1); obtain ⟨c10, c11, c12, c13, c14, _⟩ := HA1.out; clear HBc1)
            | (go_at_call 47; (with_reducible refine (HF.out _).mono ?_); rintro e w9 ⟨rfl, hw9⟩; subst hw9)
            | fail)
          go_ret
          exact ⟨rfl, HB1.out⟩
        | false =>
          simp only [hfl, Bool.not_false, Bool.true_and] at hT HF
          subst hT
          clear hn hm ho hfl
          go_enter Tryd.func40, Tryd.ntmps40
          go_wp2_with (first
            | (go_at_call 45; (with_reducible refine (HN.out _).mono ?_); rintro e w1 ⟨rfl, hw1⟩; subst hw1)
            | (go_at_call 46; (with_reducible refine (HM.out _).mono ?_); rintro e w1 ⟨rfl, HBc1⟩; have HB1 := Lib.hid (HB0.out.trans (HBc1.mono HB0.out.size)); have HA1 := Lib.hid (HA0.out.below HBc1); obtain ⟨c10, c11, c12, c13, c14, _⟩ := HA1.out; clear HBc1)
            | (go_at_call 47; (with_reducible refine (HF.out _).mono ?_); rintro e w9 ⟨rfl, hw9⟩; subst hw9)
            | (go_at_call 48; (with_reducible refine (HE.out _).mono ?_); rintro e w2 ⟨rfl, HBc2⟩; have HB2 := Lib.hid (HB1.out.trans (HBc2.mono HB1.out.size)); clear HBc2)
            | fail)
          go_ret
          exact ⟨rfl, HB2.out⟩
end Go.Proofs.YtadogjnoklabdaaDoor
