/- atom, rich; the closed facts of works. Conditions: as each theorem names them. -/
import Derived.Test.YtadogjnoklabdaaDoorH20
namespace Go.Proofs.YtadogjnoklabdaaDoor
open Go.ChangeShapes Go.WideShapes Go.ChangeAt Go.RowKit Go.Deep
set_option maxRecDepth 100000

theorem atom_any (s : ByteArray) (w : World) : Calls Tryd.prog 21 #[.string s] w fun e w' => e = .returned (.agg #[.int .u8 1, .string s, .int .u8 0, .int .i64 0, .string ⟨#[]⟩, .string ⟨#[]⟩, .slice none 0 0]) ∧ Below w.heap.size w w' := by
  go_enter Tryd.func21, Tryd.ntmps21
  go_wp2_with fail
  exact bodyPost_ret (results_cell_row rfl _ _ w.heap.size 28 _ (0, 0) _ rfl (Blk.new w 28 _) Tryd.underlying28 rfl (by kernel_rfl)) rfl ⟨rfl, below_new _ _⟩
theorem rich_any (k : Int) (a : Option Addr) (n c : Nat) (w : World) : Calls Tryd.prog 14 #[.int .u8 k, .slice a n c] w fun e w' => e = .returned (.agg #[.int .u8 k, .string ⟨#[]⟩, .int .u8 0, .int .i64 0, .string ⟨#[]⟩, .string ⟨#[]⟩, .slice a n c]) ∧ Below w.heap.size w w' := by
  go_enter Tryd.func14, Tryd.ntmps14
  go_wp2_with fail
  exact bodyPost_ret (results_cell_row rfl _ _ w.heap.size 28 _ (0, 0) _ rfl (Blk.new w 28 _) Tryd.underlying28 rfl (by kernel_rfl)) rfl ⟨rfl, below_new _ _⟩

abbrev dN (s : ByteArray) : DepD := ⟨s, 0, 0, ⟨#[]⟩, ⟨#[]⟩⟩
abbrev bashS : ByteArray := { data := #[98, 97, 115, 104] }
abbrev zshS : ByteArray := { data := #[122, 115, 104] }
def atomR (s : ByteArray) : RichD := .node 1 (dN s) 0 (fun _ => .nil)
def twoR (k : Int) (x y : RichD) : RichD := .node k noDep 2 (fun j => if j = 0 then x else y)
def oneR (k : Int) (x : RichD) : RichD := .node k noDep 1 (fun _ => x)
def ifR : RichD := twoR 4 (atomR bashS) (atomR zshS)
def unlR : RichD := twoR 5 (atomR bashS) (atomR zshS)
def withR : RichD := twoR 6 (atomR bashS) unlR
def andR : RichD := oneR 2 (atomR bashS)
theorem dep_bash : depE (dN bashS) = true := by
  unfold depE nameE fileE DepD.zero
  simp only [ByteArray.toList_eq]
  decide +kernel
theorem dep_zsh : depE (dN zshS) = true := by
  unfold depE nameE fileE DepD.zero
  simp only [ByteArray.toList_eq]
  decide +kernel
theorem none_no : noDep.none = true := by
  unfold DepD.none DepD.zero
  simp only [ByteArray.toList_eq]
  decide +kernel
theorem only_atom : onlyE (atomR bashS) 3 = true := by decide +kernel
theorem only_if : onlyE ifR 1 = true := by decide +kernel
theorem only_with : onlyE withR 0 = true := by decide +kernel
theorem only_and : onlyE andR 0 = true := by decide +kernel
end Go.Proofs.YtadogjnoklabdaaDoor
