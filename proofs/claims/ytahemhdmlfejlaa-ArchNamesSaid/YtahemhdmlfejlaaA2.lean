/- Contracts of package arch's functions and of its statements' helpers. No conditions. -/
import Derived.Test.YtahemhdmlfejlaaA1
import Derived.Laws.Tables
import Derived.Laws.Rows
namespace Go.Proofs.Ytahemhdmlfejlaa
open Go.ChangeShapes Go.WideShapes Go.ChangeAt Go.RowKit

theorem below_setRow {B : Nat} {a w : World} (h : Below B a w) {g : Nat} (hg : B ≤ g) (cs : Array Value) : Below B a (w.setRow g cs) :=
  h.trans ⟨rfl, rfl, rfl, by simp, fun k hk => setRow_other w g k cs (by omega)⟩

def namesV : Value := .agg #[.string ⟨#[]⟩, .string ⟨#[110, 111, 97, 114, 99, 104]⟩, .string ⟨#[120, 56, 54, 95, 54, 52]⟩, .string ⟨#[105, 54, 56, 54]⟩, .string ⟨#[97, 97, 114, 99, 104, 54, 52]⟩]

theorem names_any (w : World) : Calls Try.prog 23 #[] w fun e w' => e = .returned namesV ∧ Below w.heap.size w w' := by
  go_enter Try.func23, Try.ntmps23
  go_wp2
  exact bodyPost_ret (v := namesV) (by simp [results, Try.results23, go_sem, namesV]) rfl ⟨rfl, (Below.refl _ _).alloc (Nat.le_refl _) _⟩

def nameOf (a : Int) : ByteArray := if a = 1 then ⟨#[110, 111, 97, 114, 99, 104]⟩ else if a = 2 then ⟨#[120, 56, 54, 95, 54, 52]⟩ else if a = 3 then ⟨#[105, 54, 56, 54]⟩ else if a = 4 then ⟨#[97, 97, 114, 99, 104, 54, 52]⟩ else ⟨#[]⟩

theorem names_1 (w : World) : (Instr.index 33 namesV (.int .u8 1)).run Try.prog w = .ok (.string ⟨#[110, 111, 97, 114, 99, 104]⟩) w := by kernel_rfl
theorem names_2 (w : World) : (Instr.index 33 namesV (.int .u8 2)).run Try.prog w = .ok (.string ⟨#[120, 56, 54, 95, 54, 52]⟩) w := by kernel_rfl
theorem names_3 (w : World) : (Instr.index 33 namesV (.int .u8 3)).run Try.prog w = .ok (.string ⟨#[105, 54, 56, 54]⟩) w := by kernel_rfl
theorem names_4 (w : World) : (Instr.index 33 namesV (.int .u8 4)).run Try.prog w = .ok (.string ⟨#[97, 97, 114, 99, 104, 54, 52]⟩) w := by kernel_rfl
theorem names_at (a : Int) (h : 1 ≤ a ∧ a ≤ 4) (w : World) : (Instr.index 33 namesV (.int .u8 a)).run Try.prog w = .ok (.string (nameOf a)) w := by
  have h4 : a = 1 ∨ a = 2 ∨ a = 3 ∨ a = 4 := by omega
  rcases h4 with rfl | rfl | rfl | rfl
  · exact names_1 w
  · exact names_2 w
  · exact names_3 w
  · exact names_4 w

theorem name_any (a : Int) (w : World) : Calls Try.prog 11 #[.int .u8 a] w fun e w' => e = .returned (.string (nameOf a)) ∧ Below w.heap.size w w' := by
  cases h : isB a
  · go_enter Try.func11, Try.ntmps11
    go_wp2_with (go_at_call 22; refine (is_any _ _).mono ?_; rintro e w' ⟨rfl, rfl⟩)
    go_ret
    refine ⟨?_, Below.refl _ _⟩
    have : ¬ a = 1 ∧ ¬ a = 2 ∧ ¬ a = 3 ∧ ¬ a = 4 := by simp [isB] at h; omega
    simp [nameOf, this]
  · have hi := names_at a (by simpa [isB] using h)
    go_enter Try.func11, Try.ntmps11
    go_wp2_with (first | (go_at_call 22; refine (is_any _ _).mono ?_; rintro e w' ⟨rfl, rfl⟩) | (go_at_call 23; refine (names_any _).mono ?_; rintro e w1 ⟨rfl, hg⟩))
    go_wp2
    go_ret
    exact ⟨rfl, hg⟩

def zerosV : Array Value := #[.int .i64 0, .int .i64 0, .int .i64 0, .int .i64 0, .int .i64 0, .int .i64 0, .int .i64 0, .int .i64 0, .int .i64 0, .int .i64 0, .int .i64 0, .int .i64 0, .int .i64 0, .int .i64 0, .int .i64 0, .int .i64 0, .int .i64 0, .int .i64 0, .int .i64 0, .int .i64 0, .int .i64 0, .int .i64 0, .int .i64 0, .int .i64 0, .int .i64 0]
def scoresC : Array Value := #[.int .i64 0, .int .i64 0, .int .i64 0, .int .i64 0, .int .i64 0, .int .i64 0, .int .i64 0, .int .i64 0, .int .i64 0, .int .i64 0, .int .i64 0, .int .i64 2, .int .i64 1, .int .i64 3, .int .i64 0, .int .i64 0, .int .i64 2, .int .i64 0, .int .i64 1, .int .i64 0, .int .i64 0, .int .i64 2, .int .i64 0, .int .i64 0, .int .i64 1]
def scoresV : Value := .agg scoresC


theorem scores_one : (scoresC.all fun x => x.oneCell') = true := by kernel_rfl
theorem scores_any (w : World) : Calls Try.prog 25 #[] w fun e w' => e = .returned scoresV ∧ Below w.heap.size w w' := by
  go_enter Try.func25, Try.ntmps25
  go_wp2_with (refine wpList_store_row rfl 37 (.tmp 0) (.tmp 4) rfl w.heap.size scoresC rfl rfl 37 zerosV (heap_alloc_new _ _) (by kernel_rfl) rfl scores_one ?_)
  exact bodyPost_ret (v := scoresV) (results_cell_row Try.results25 _ _ w.heap.size 37 scoresC (0, 0) _ rfl (setRow_heap _ _ zerosV _ 37 _ (heap_alloc_new _ _)) Try.underlying37 rfl (by kernel_rfl)) rfl ⟨rfl, below_setRow ((Below.refl _ _).alloc (Nat.le_refl _) _) (Nat.le_refl _) _⟩

end Go.Proofs.Ytahemhdmlfejlaa
