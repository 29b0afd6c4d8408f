/-
  No cell of these rows narrows 'for every input' (looked for: loops, veiled, ifaces, maps, wideKeys, modest, calm, conditions, laid).
  DERIVED. THE GIVEN ROWS OF THIS SEAT. 4 by the template 'for every input the law returns true; each argument reads behind the call as it read before'; 0 by the template 'total and deterministic' (their statements: YtahemhdmlfejlaaTotals.lean).
  GIVEN WITH THE SEED: the statements are not yours to turn. If you find one false, say at which input.
  Laid BY PROGRAM, IN A SANDBOX (cutbox-rows.mjs): the forced cells as the released guide's own fill.sh prints them over the translation faa212e4ad7fd59c… (all of the seat's roots in one cut). By AI agents, Wed Nov 11 2026. No macro, syntax, notation, axiom, sorry.
-/
import Derived.Test.YtahemhdmlfejlaaChecked
import GoSem.Claim
import GoSem.ClaimJoined
import GoSem.ClaimMapViews
import Derived.JoinedTies
import Derived.KernelRfl
namespace Go.Proofs.Ytahemhdmlfejlaa
/- THE CELL 'sum', in the pinned program and in every row, IS THE sha256 OF THE DUMP (.gsa) THAT YtahemhdmlfejlaaProg.lean LOADS. Nothing in Lean hashes anything: it is a label: what it is worth is what the hold of that sum in a sandbox is worth. -/
noncomputable def Try.pinned : Pinned := { name := "ytahemhdmlfejlaa", sum := "faa212e4ad7fd59c507269821fa0653911bac45cc9ccba45b8f244c42ac68637", checked := Try.checked }
namespace Rows
def none {H : Type} : Left H := { results := [], args := [] }

/-- 'chandlerylaw05.ArchEither': WHATEVER THE INPUT: true; the input reads as it did. -/
def archEitherSpec : ChangeSpec := { name := "archEither", fn := fun _ => fun
  | [d1, d2] => { results := [.lit (.bool true)], args := [d1, d2] }
  | _ => none }
def archEitherRow : OpenClaim := { program := "ytahemhdmlfejlaa", sum := "faa212e4ad7fd59c507269821fa0653911bac45cc9ccba45b8f244c42ac68637", func := "chandlery/chandlerylaw05.ArchEither", spec := "archEither", apart := false }
def ArchEitherSaid : Prop := archEitherRow.holds Try.pinned (OpenSpec.ofChange archEitherSpec)

/-- ITS FALSE NEIGHBOUR: 'it returns false'. Refute it at one input. -/
def archEitherWrong : ChangeSpec := { name := "archEither", fn := fun _ => fun
  | [d1, d2] => { results := [.lit (.bool false)], args := [d1, d2] }
  | _ => none }
def ArchEitherWrongFalsely : Prop := archEitherRow.holds Try.pinned (OpenSpec.ofChange archEitherWrong)

/-- 'chandlerylaw05.ArchNames': WHATEVER THE INPUT: true; the input reads as it did. -/
def archNamesSpec : ChangeSpec := { name := "archNames", fn := fun _ => fun
  | [] => { results := [.lit (.bool true)], args := [] }
  | _ => none }
def archNamesRow : OpenClaim := { program := "ytahemhdmlfejlaa", sum := "faa212e4ad7fd59c507269821fa0653911bac45cc9ccba45b8f244c42ac68637", func := "chandlery/chandlerylaw05.ArchNames", spec := "archNames", apart := false }
def ArchNamesSaid : Prop := archNamesRow.holds Try.pinned (OpenSpec.ofChange archNamesSpec)

/-- ITS FALSE NEIGHBOUR: 'it returns false'. Refute it at one input. -/
def archNamesWrong : ChangeSpec := { name := "archNames", fn := fun _ => fun
  | [] => { results := [.lit (.bool false)], args := [] }
  | _ => none }
def ArchNamesWrongFalsely : Prop := archNamesRow.holds Try.pinned (OpenSpec.ofChange archNamesWrong)

/-- 'chandlerylaw05.ArchTells': WHATEVER THE INPUT: true; the input reads as it did. -/
def archTellsSpec : ChangeSpec := { name := "archTells", fn := fun _ => fun
  | [d1, d2, d3] => { results := [.lit (.bool true)], args := [d1, d2, d3] }
  | _ => none }
def archTellsRow : OpenClaim := { program := "ytahemhdmlfejlaa", sum := "faa212e4ad7fd59c507269821fa0653911bac45cc9ccba45b8f244c42ac68637", func := "chandlery/chandlerylaw05.ArchTells", spec := "archTells", apart := false }
def ArchTellsSaid : Prop := archTellsRow.holds Try.pinned (OpenSpec.ofChange archTellsSpec)

/-- ITS FALSE NEIGHBOUR: 'it returns false'. Refute it at one input. -/
def archTellsWrong : ChangeSpec := { name := "archTells", fn := fun _ => fun
  | [d1, d2, d3] => { results := [.lit (.bool false)], args := [d1, d2, d3] }
  | _ => none }
def ArchTellsWrongFalsely : Prop := archTellsRow.holds Try.pinned (OpenSpec.ofChange archTellsWrong)

/-- 'chandlerylaw05.ArchOwn': WHATEVER THE INPUT: true; the input reads as it did. -/
def archOwnSpec : ChangeSpec := { name := "archOwn", fn := fun _ => fun
  | [d1, d2, d3] => { results := [.lit (.bool true)], args := [d1, d2, d3] }
  | _ => none }
def archOwnRow : OpenClaim := { program := "ytahemhdmlfejlaa", sum := "faa212e4ad7fd59c507269821fa0653911bac45cc9ccba45b8f244c42ac68637", func := "chandlery/chandlerylaw05.ArchOwn", spec := "archOwn", apart := false }
def ArchOwnSaid : Prop := archOwnRow.holds Try.pinned (OpenSpec.ofChange archOwnSpec)

/-- ITS FALSE NEIGHBOUR: 'it returns false'. Refute it at one input. -/
def archOwnWrong : ChangeSpec := { name := "archOwn", fn := fun _ => fun
  | [d1, d2, d3] => { results := [.lit (.bool false)], args := [d1, d2, d3] }
  | _ => none }
def ArchOwnWrongFalsely : Prop := archOwnRow.holds Try.pinned (OpenSpec.ofChange archOwnWrong)

/- THE SECOND FORM. 'bulk': how many values and letters a reading holds, each counted each time it is reached (what is shared counts as often as it is met; a slice's spare places count too). A statement '..UptoSaid' is the law's where the arguments, and the package variables that the reading takes, are together of bulk at most 1048576: NARROWER than '..Said'. Prove '..Said' where nothing that the law and all that it calls make is longer than what came in: it says more and counts as full. Else prove '..UptoSaid'. A law counts once. -/
mutual
def uptoBulk {H : Type} : DataW H → Nat
  | .lit (.string bytes) => bytes.length + 1
  | .lit _ => 1
  | .nil => 1
  | .ptr d => uptoBulk d + 1
  | .slice elems spare => uptoBulkAll elems + uptoBulkAll spare + 1
  | .agg parts => uptoBulkAll parts + 1
  | .iface _ d => uptoBulk d + 1
  | .map entries => uptoBulkEntries entries + 1
  | .held _ => 1
def uptoBulkAll {H : Type} : List (DataW H) → Nat
  | [] => 0
  | d :: r => uptoBulk d + uptoBulkAll r
def uptoBulkEntries {H : Type} : List (Lit × DataW H) → Nat
  | [] => 0
  | x :: r => uptoBulkEntry x + uptoBulkEntries r
def uptoBulkEntry {H : Type} : Lit × DataW H → Nat
  | (.string bytes, d) => bytes.length + uptoBulk d + 1
  | (_, d) => uptoBulk d + 1
 end
def uptoSmall : (H : Type) → List (DataW H) → Bool := fun _ ds => decide (uptoBulkAll ds ≤ 1048576)
def OpenSpec.upto (s : _root_.Go.ChangeSpec) : _root_.Go.OpenSpec := { _root_.Go.OpenSpec.ofChange s with cond := some uptoSmall }

/-- 'chandlerylaw05.ArchEither', WHERE WHAT IT READS IS OF BULK AT MOST 1048576: true; the input reads as it did. -/
def archEitherUptoRow : OpenClaim := { program := "ytahemhdmlfejlaa", sum := "faa212e4ad7fd59c507269821fa0653911bac45cc9ccba45b8f244c42ac68637", func := "chandlery/chandlerylaw05.ArchEither", spec := "archEither", apart := false, narrowed := true }
def ArchEitherUptoSaid : Prop := archEitherUptoRow.holds Try.pinned (OpenSpec.upto archEitherSpec)

/-- 'chandlerylaw05.ArchNames', WHERE WHAT IT READS IS OF BULK AT MOST 1048576: true; the input reads as it did. -/
def archNamesUptoRow : OpenClaim := { program := "ytahemhdmlfejlaa", sum := "faa212e4ad7fd59c507269821fa0653911bac45cc9ccba45b8f244c42ac68637", func := "chandlery/chandlerylaw05.ArchNames", spec := "archNames", apart := false, narrowed := true }
def ArchNamesUptoSaid : Prop := archNamesUptoRow.holds Try.pinned (OpenSpec.upto archNamesSpec)

/-- 'chandlerylaw05.ArchTells', WHERE WHAT IT READS IS OF BULK AT MOST 1048576: true; the input reads as it did. -/
def archTellsUptoRow : OpenClaim := { program := "ytahemhdmlfejlaa", sum := "faa212e4ad7fd59c507269821fa0653911bac45cc9ccba45b8f244c42ac68637", func := "chandlery/chandlerylaw05.ArchTells", spec := "archTells", apart := false, narrowed := true }
def ArchTellsUptoSaid : Prop := archTellsUptoRow.holds Try.pinned (OpenSpec.upto archTellsSpec)

/-- 'chandlerylaw05.ArchOwn', WHERE WHAT IT READS IS OF BULK AT MOST 1048576: true; the input reads as it did. -/
def archOwnUptoRow : OpenClaim := { program := "ytahemhdmlfejlaa", sum := "faa212e4ad7fd59c507269821fa0653911bac45cc9ccba45b8f244c42ac68637", func := "chandlery/chandlerylaw05.ArchOwn", spec := "archOwn", apart := false, narrowed := true }
def ArchOwnUptoSaid : Prop := archOwnUptoRow.holds Try.pinned (OpenSpec.upto archOwnSpec)

end Rows
end Go.Proofs.Ytahemhdmlfejlaa
