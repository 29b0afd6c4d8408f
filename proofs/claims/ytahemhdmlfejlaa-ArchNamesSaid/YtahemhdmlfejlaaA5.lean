/- Contracts of arch.Parse and its callees. No conditions. -/
import Derived.Test.YtahemhdmlfejlaaA3
namespace Go.Proofs.Ytahemhdmlfejlaa
open Go.ChangeShapes Go.WideShapes Go.ChangeAt Go.RowKit

def idxL (l : List UInt8) : Int :=
  if l.isEmpty then 0 else if l == [110, 111, 97, 114, 99, 104] then 1 else if l == [120, 56, 54, 95, 54, 52] then 2 else if l == [105, 54, 56, 54] then 3 else if l == [97, 97, 114, 99, 104, 54, 52] then 4 else -1

theorem index_any (s : ByteArray) (b : Nat) (w : World) (h0 : w.cell? ⟨b, 0, none⟩ = some (.string ⟨#[]⟩)) (h1 : w.cell? ⟨b, 1, none⟩ = some (.string ⟨#[110, 111, 97, 114, 99, 104]⟩))
  (h2 : w.cell? ⟨b, 2, none⟩ = some (.string ⟨#[120, 56, 54, 95, 54, 52]⟩)) (h3 : w.cell? ⟨b, 3, none⟩ = some (.string ⟨#[105, 54, 56, 54]⟩)) (h4 : w.cell? ⟨b, 4, none⟩ = some (.string ⟨#[97, 97, 114, 99, 104, 54, 52]⟩)) :
    Calls Try.prog 24 #[.slice (some ⟨b, 0, none⟩) 5 5, .string s] w fun e w' => e = .returned (.int .i64 (idxL s.toList)) ∧ w = w' := by
  cases t0 : s.toList.isEmpty
  case true =>
    go_enter Try.func24, Try.ntmps24
    go_wp2
    refine wp_loop_rounds 6 ?_
    rw [rounds_succ]
    go_wp2
    go_ret
    exact ⟨by simp [idxL, t0], rfl⟩
  cases t1 : (s.toList == [110, 111, 97, 114, 99, 104])
  case true =>
    go_enter Try.func24, Try.ntmps24
    go_wp2
    refine wp_loop_rounds 6 ?_
    rw [rounds_succ]; go_wp2; rw [rounds_succ]; go_wp2
    go_ret
    exact ⟨by simp only [idxL, t0, t1]; rfl, rfl⟩
  cases t2 : (s.toList == [120, 56, 54, 95, 54, 52])
  case true =>
    go_enter Try.func24, Try.ntmps24
    go_wp2
    refine wp_loop_rounds 6 ?_
    rw [rounds_succ]; go_wp2; rw [rounds_succ]; go_wp2; rw [rounds_succ]; go_wp2
    go_ret
    exact ⟨by simp only [idxL, t0, t1, t2]; rfl, rfl⟩
  cases t3 : (s.toList == [105, 54, 56, 54])
  case true =>
    go_enter Try.func24, Try.ntmps24
    go_wp2
    refine wp_loop_rounds 6 ?_
    rw [rounds_succ]; go_wp2; rw [rounds_succ]; go_wp2; rw [rounds_succ]; go_wp2; rw [rounds_succ]; go_wp2
    go_ret
    exact ⟨by simp only [idxL, t0, t1, t2, t3]; rfl, rfl⟩
  cases t4 : (s.toList == [97, 97, 114, 99, 104, 54, 52])
  case true =>
    go_enter Try.func24, Try.ntmps24
    go_wp2
    refine wp_loop_rounds 6 ?_
    rw [rounds_succ]; go_wp2; rw [rounds_succ]; go_wp2; rw [rounds_succ]; go_wp2; rw [rounds_succ]; go_wp2; rw [rounds_succ]; go_wp2
    go_ret
    exact ⟨by simp only [idxL, t0, t1, t2, t3, t4]; rfl, rfl⟩
  go_enter Try.func24, Try.ntmps24
  go_wp2
  refine wp_loop_rounds 6 ?_
  rw [rounds_succ]; go_wp2; rw [rounds_succ]; go_wp2; rw [rounds_succ]; go_wp2; rw [rounds_succ]; go_wp2; rw [rounds_succ]; go_wp2; rw [rounds_succ]; go_wp2
  go_ret
  exact ⟨by simp only [idxL, t0, t1, t2, t3, t4]; rfl, rfl⟩

def parseL (l : List UInt8) : Int := if 0 < idxL l then idxL l else 0
def parseE (l : List UInt8) : Int := if 0 < idxL l then 0 else 5

theorem idxL_bd (l : List UInt8) : -1 ≤ idxL l ∧ idxL l ≤ 4 := by
  unfold idxL
  repeat' split
  all_goals omega

def namesC : Array Value := #[.string ⟨#[]⟩, .string ⟨#[110, 111, 97, 114, 99, 104]⟩, .string ⟨#[120, 56, 54, 95, 54, 52]⟩, .string ⟨#[105, 54, 56, 54]⟩, .string ⟨#[97, 97, 114, 99, 104, 54, 52]⟩]
def emptiesC : Array Value := #[.string ⟨#[]⟩, .string ⟨#[]⟩, .string ⟨#[]⟩, .string ⟨#[]⟩, .string ⟨#[]⟩]
theorem names_one : (namesC.all fun x => x.oneCell') = true := by kernel_rfl
theorem row_heap (w : World) : ((w.alloc (.cells emptiesC 33)).setRow w.heap.size namesC).heap[w.heap.size]? = some (.cells namesC 33 (0, 0)) := setRow_heap _ _ emptiesC _ 33 _ (heap_alloc_new _ _)
theorem index_row (s : ByteArray) (w : World) : Calls Try.prog 24 #[.slice (some ⟨w.heap.size, 0, none⟩) 5 5, .string s] ((w.alloc (.cells emptiesC 33)).setRow w.heap.size namesC) fun e w' => e = .returned (.int .i64 (idxL s.toList)) ∧ Below w.heap.size w w' :=
  (index_any s _ _ (cell_of_row _ _ 0 _ _ _ (row_heap w)) (cell_of_row _ _ 1 _ _ _ (row_heap w)) (cell_of_row _ _ 2 _ _ _ (row_heap w)) (cell_of_row _ _ 3 _ _ _ (row_heap w)) (cell_of_row _ _ 4 _ _ _ (row_heap w))).mono
    fun _ _ ⟨h, hw⟩ => ⟨h, hw ▸ below_setRow ((Below.refl _ _).alloc (Nat.le_refl _) _) (Nat.le_refl _) _⟩

theorem parse_any (s : ByteArray) (w : World) : Calls Try.prog 10 #[.string s] w fun e w' => e = .returned (.tuple #[.int .u8 (parseL s.toList), .int .i64 (parseE s.toList)]) ∧ Below w.heap.size w w' := by
  obtain ⟨hb1, hb2⟩ := idxL_bd s.toList
  by_cases h : 0 < idxL s.toList
  all_goals
    go_enter Try.func10, Try.ntmps10
    go_wp2_with fail
    refine (names_any _).mono ?_
    rintro e w1 ⟨rfl, hg⟩
    go_wp2_with (first | (refine wpList_store_row rfl 33 (.tmp 4) (.tmp 6) rfl w1.heap.size namesC rfl rfl 33 emptiesC (heap_alloc_new _ _) (by kernel_rfl) rfl names_one ?_) | (go_at_call 24; refine (index_row _ _).mono ?_; rintro e w2 ⟨rfl, hg2⟩))
    go_ret2
    refine ⟨?_, hg.trans (hg2.mono hg.size)⟩
    simp [parseL, parseE, h]
    try omega

end Go.Proofs.Ytahemhdmlfejlaa
