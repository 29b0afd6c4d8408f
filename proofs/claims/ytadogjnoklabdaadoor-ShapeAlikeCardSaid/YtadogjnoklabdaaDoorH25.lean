/- The plain law of what is joined: an Or, an And, an Unless, a With of two that may be. Conditions: as each theorem names them. -/
import Derived.Test.YtadogjnoklabdaaDoorH22
namespace Go.Proofs.YtadogjnoklabdaaDoor
set_option maxRecDepth 100000

theorem ask_alone (k : Int) : (askE k).alone = true ↔ 3 ≤ (askE k).wher := by
  unfold askE
  repeat' split
  all_goals simp
theorem ask_wher (k : Int) (h : 3 ≤ (askE k).wher) : 1 ≤ (askE k).wher := by omega
theorem keyE_weak {k : Int} {d : DepD} {n : Nat} {al : Bool} : keyE 3 (k, d, n, al) = keyE 1 (k, d, n, true) := by
  rw [Bool.eq_iff_iff, keyE_iff, keyE_iff]
  have h := ask_alone k
  constructor
  · rintro ⟨h1, _, h3⟩
    exact ⟨ask_wher k h1, fun _ => h.2 h1, h3⟩
  · rintro ⟨h1, h2, h3⟩
    exact ⟨h.1 (h2 rfl), fun _ => h2 rfl, h3⟩
theorem parts_weak : (r : RichD) → (al : Bool) → ((r.parts al).all (keyE 3) = true ↔ (r.parts true).all (keyE 1) = true)
  | .nil, al => by
    simp only [RichD.parts, List.all_cons, List.all_nil, Bool.and_true]
    rw [keyE_weak]
  | .node k d n f, al => by
    rw [parts_eq, parts_eq (.node k d n f) true]
    simp only [List.all_cons, Bool.and_eq_true, RichD.kind, RichD.dep, RichD.n, RichD.args, all_cat, keyE_weak]
    refine and_congr_right fun _ => ⟨fun h j hj => ?_, fun h j hj => ?_⟩
    · exact (parts_weak (f j) _).1 (h j hj)
    · exact (parts_weak (f j) _).2 (h j hj)
def wantJ (a b : RichD) : Int := if 24 ≤ a.count + b.count then 40 else if 8 ≤ a.depth ∨ 8 ≤ b.depth then 21 else 0
def wantW (a b : RichD) : Int := if wantJ a b = 0 ∧ (¬ mayE a 3 = 0 ∨ ¬ mayE b 3 = 0) then 4 else wantJ a b
theorem two_count (k : Int) (a b : RichD) : (twoR k a b).count = 1 + (a.count + b.count) := by
  show 1 + (0 + a.count + b.count) = _
  omega
theorem two_depth {k : Int} (hk : k ≠ 1) (a b : RichD) : (twoR k a b).depth = max a.depth b.depth + 1 := by
  show (if k = 1 then 0 else max (max 0 a.depth) b.depth + 1) = _
  rw [if_neg hk]
  omega
theorem two_parts (k : Int) (a b : RichD) : (twoR k a b).parts false = (k, noDep, 2, false) :: (a.parts (aloneE k false) ++ b.parts (aloneE k false)) := by
  show (k, noDep, 2, false) :: (([] ++ a.parts _) ++ b.parts _) = _
  rw [List.nil_append]
  rfl
theorem mayE_two {k : Int} (hk : k ≠ 1) (a b : RichD) : mayE (twoR k a b) 1 = if 24 ≤ a.count + b.count then 40 else if 8 ≤ a.depth ∨ 8 ≤ b.depth then 21 else if (keyE 1 (k, noDep, 2, false) && ((a.parts (aloneE k false)).all (keyE 1) && (b.parts (aloneE k false)).all (keyE 1))) = true then 0 else 4 := by
  unfold mayE
  rw [two_count, two_depth hk, two_parts, if_neg (by omega)]
  by_cases h1 : 24 ≤ a.count + b.count
  · rw [if_pos (by omega), if_pos h1]
  · rw [if_neg (by omega), if_neg h1]
    by_cases h2 : 8 ≤ a.depth ∨ 8 ≤ b.depth
    · rw [if_pos (by omega), if_pos h2]
    · rw [if_neg (by omega), if_neg h2, List.all_cons, List.all_append]
theorem key_or : keyE 1 (3, noDep, 2, false) = true := by decide +kernel
theorem key_and : keyE 1 (2, noDep, 2, false) = true := by decide +kernel
theorem key_unless : keyE 1 (5, noDep, 2, false) = true := by decide +kernel
theorem key_with : keyE 1 (6, noDep, 2, false) = true := by decide +kernel
theorem joined_may {k : Int} (hk : k = 3 ∨ k = 2 ∨ k = 5) {a b : RichD} (ha : mayE a 1 = 0) (hb : mayE b 1 = 0) : mayE (twoR k a b) 1 = wantJ a b := by
  have h1 := (mayE_ok.1 ha).2.2.2.2
  have h2 := (mayE_ok.1 hb).2.2.2.2
  have hk1 : k ≠ 1 := by omega
  have hal : aloneE k false = false := by rcases hk with rfl | rfl | rfl <;> decide
  have hkey : keyE 1 (k, noDep, 2, false) = true := by rcases hk with rfl | rfl | rfl <;> first | exact key_or | exact key_and | exact key_unless
  rw [mayE_two hk1, hal, hkey, h1, h2]
  rfl
theorem weak_iff {a : RichD} (ha : mayE a 1 = 0) : mayE a 3 = 0 ↔ (a.parts true).all (keyE 1) = true := by
  have h := mayE_ok.1 ha
  rw [mayE_ok, parts_weak]
  exact ⟨fun h => h.2.2.2.2, fun h5 => ⟨by omega, by omega, h.2.2.1, h.2.2.2.1, h5⟩⟩
theorem joined_with {a b : RichD} (ha : mayE a 1 = 0) (hb : mayE b 1 = 0) : mayE (twoR 6 a b) 1 = wantW a b := by
  have h1 := weak_iff ha
  have h2 := weak_iff hb
  rw [mayE_two (by decide), key_with, show aloneE 6 false = true from rfl]
  unfold wantW wantJ
  by_cases c1 : 24 ≤ a.count + b.count
  · simp [c1]
  · by_cases c2 : 8 ≤ a.depth ∨ 8 ≤ b.depth
    · simp [c1, c2]
    · simp only [c1, c2, if_false, Bool.true_and, Bool.and_eq_true, true_and]
      by_cases d1 : mayE a 3 = 0
      · by_cases d2 : mayE b 3 = 0
        · rw [if_pos ⟨h1.1 d1, h2.1 d2⟩, if_neg (fun h => h.elim (fun h => h d1) (fun h => h d2))]
        · rw [if_neg (fun h => d2 (h2.2 h.2)), if_pos (.inr d2)]
      · rw [if_neg (fun h => d1 (h1.2 h.1)), if_pos (.inl d1)]
end Go.Proofs.YtadogjnoklabdaaDoor
