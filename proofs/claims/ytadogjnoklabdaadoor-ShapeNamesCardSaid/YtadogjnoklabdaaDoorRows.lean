/-
  NARROWER THAN 'FOR EVERY INPUT', by the rows' own cells (each row's printed sentence says how): ShapePlaces: loops, laid · ShapeJoined: loops, laid · ShapeCounted: loops, laid · ShapeAlike: loops, laid · ShapeNames: laid · ShapeTells: loops, laid.
  DERIVED. THE GIVEN ROWS OF THIS SEAT. 6 by the template 'for every input the law returns true; each argument reads behind the call as it read before'; 0 by the template 'total and deterministic' (their statements: YtadogjnoklabdaaDoorTotals.lean).
  GIVEN WITH THE SEED: the statements are not yours to turn. If you find one false, say at which input.
  Laid BY PROGRAM, IN A SANDBOX (cutbox-rows.mjs): the forced cells as the released guide's own fill.sh prints them over the translation b4e40c965814b5bd… (all of the seat's roots in one cut). By AI agents, Wed Nov 11 2026. No macro, syntax, notation, axiom, sorry.
-/
import Derived.Test.YtadogjnoklabdaaDoorChecked
import GoSem.Claim
import GoSem.ClaimJoined
import GoSem.ClaimMapViews
import Derived.JoinedTies
import Derived.KernelRfl
namespace Go.Proofs.YtadogjnoklabdaaDoor
/- THE CELL 'sum', in the pinned program and in every row, IS THE sha256 OF THE DUMP (.gsa) THAT YtadogjnoklabdaaDoorProg.lean LOADS. Nothing in Lean hashes anything: it is a label: what it is worth is what the hold of that sum in a sandbox is worth. -/
noncomputable def Tryd.pinned : Pinned := { name := "ytadogjnoklabdaadoor", sum := "b4e40c965814b5bd4ec27bcbece6215e08be6322433f7cdc6ff0d2cc8315d114", checked := Tryd.checked }
namespace Rows
def none {H : Type} : Left H := { results := [], args := [] }

/- WHAT THE LISTED PACKAGE-LEVEL VARIABLES READ AS WHEN THE CALL BEGINS. Each datum BY PROGRAM (the guide's laid-datum.mjs) off the statement by which the dump's own 'gosem.cut.vars' lays the variable. In a bare row this is a premise. The card (YtadogjnoklabdaaDoorCards.lean) ties it to the program's text. -/
def laid_chandlery_span_ops {H : Type} : DataW H := .map [(.string [], .lit (.int .u8 0)), (.string [60], .lit (.int .u8 1)), (.string [60, 61], .lit (.int .u8 3)), (.string [61], .lit (.int .u8 2)), (.string [62], .lit (.int .u8 4)), (.string [62, 61], .lit (.int .u8 6))]
def laid_chandlery_dep_words {H : Type} : DataW H := .agg [.lit (.string [97, 110, 100]), .lit (.string [111, 114]), .lit (.string [105, 102]), .lit (.string [101, 108, 115, 101]), .lit (.string [117, 110, 108, 101, 115, 115]), .lit (.string [119, 105, 116, 104]), .lit (.string [119, 105, 116, 104, 111, 117, 116])]

/-- 'chandlerylaw09.ShapePlaces': WHATEVER THE INPUT: true; the input reads as it did. -/
def shapePlacesSpec : ChangeSpec := { name := "shapePlaces", fn := fun _ => fun
  | [d1, d2] => { results := [.lit (.bool true)], args := [d1, d2] }
  | _ => none }
def shapePlacesRow : OpenClaim := { program := "ytadogjnoklabdaadoor", sum := "b4e40c965814b5bd4ec27bcbece6215e08be6322433f7cdc6ff0d2cc8315d114", func := "chandlery/chandlerylaw09.ShapePlaces", spec := "shapePlaces", inPlace := ["internal/bytealg.IndexByteString"], unfollowed := true, recurses := true, named := ["chandlery/dep.words", "chandlery/span.ops"], loops := true, apart := false, laid := [("chandlery/span.ops", laid_chandlery_span_ops), ("chandlery/dep.words", laid_chandlery_dep_words)] }
def ShapePlacesSaid : Prop := shapePlacesRow.holds Tryd.pinned (OpenSpec.ofChange shapePlacesSpec)

/-- ITS FALSE NEIGHBOUR: 'it returns false'. Refute it at one input. -/
def shapePlacesWrong : ChangeSpec := { name := "shapePlaces", fn := fun _ => fun
  | [d1, d2] => { results := [.lit (.bool false)], args := [d1, d2] }
  | _ => none }
def ShapePlacesWrongFalsely : Prop := shapePlacesRow.holds Tryd.pinned (OpenSpec.ofChange shapePlacesWrong)

/-- 'chandlerylaw09.ShapeJoined': WHATEVER THE INPUT: true; the input reads as it did. -/
def shapeJoinedSpec : ChangeSpec := { name := "shapeJoined", fn := fun _ => fun
  | [d1, d2] => { results := [.lit (.bool true)], args := [d1, d2] }
  | _ => none }
def shapeJoinedRow : OpenClaim := { program := "ytadogjnoklabdaadoor", sum := "b4e40c965814b5bd4ec27bcbece6215e08be6322433f7cdc6ff0d2cc8315d114", func := "chandlery/chandlerylaw09.ShapeJoined", spec := "shapeJoined", inPlace := ["internal/bytealg.IndexByteString"], unfollowed := true, recurses := true, named := ["chandlery/dep.words", "chandlery/span.ops"], loops := true, apart := false, laid := [("chandlery/span.ops", laid_chandlery_span_ops), ("chandlery/dep.words", laid_chandlery_dep_words)] }
def ShapeJoinedSaid : Prop := shapeJoinedRow.holds Tryd.pinned (OpenSpec.ofChange shapeJoinedSpec)

/-- ITS FALSE NEIGHBOUR: 'it returns false'. Refute it at one input. -/
def shapeJoinedWrong : ChangeSpec := { name := "shapeJoined", fn := fun _ => fun
  | [d1, d2] => { results := [.lit (.bool false)], args := [d1, d2] }
  | _ => none }
def ShapeJoinedWrongFalsely : Prop := shapeJoinedRow.holds Tryd.pinned (OpenSpec.ofChange shapeJoinedWrong)

/-- 'chandlerylaw09.ShapeCounted': WHATEVER THE INPUT: true; the input reads as it did. -/
def shapeCountedSpec : ChangeSpec := { name := "shapeCounted", fn := fun _ => fun
  | [d] => { results := [.lit (.bool true)], args := [d] }
  | _ => none }
def shapeCountedRow : OpenClaim := { program := "ytadogjnoklabdaadoor", sum := "b4e40c965814b5bd4ec27bcbece6215e08be6322433f7cdc6ff0d2cc8315d114", func := "chandlery/chandlerylaw09.ShapeCounted", spec := "shapeCounted", inPlace := ["internal/bytealg.IndexByteString"], unfollowed := true, recurses := true, named := ["chandlery/dep.words", "chandlery/span.ops"], loops := true, apart := false, laid := [("chandlery/span.ops", laid_chandlery_span_ops), ("chandlery/dep.words", laid_chandlery_dep_words)] }
def ShapeCountedSaid : Prop := shapeCountedRow.holds Tryd.pinned (OpenSpec.ofChange shapeCountedSpec)

/-- ITS FALSE NEIGHBOUR: 'it returns false'. Refute it at one input. -/
def shapeCountedWrong : ChangeSpec := { name := "shapeCounted", fn := fun _ => fun
  | [d] => { results := [.lit (.bool false)], args := [d] }
  | _ => none }
def ShapeCountedWrongFalsely : Prop := shapeCountedRow.holds Tryd.pinned (OpenSpec.ofChange shapeCountedWrong)

/-- 'chandlerylaw09.ShapeAlike': WHATEVER THE INPUT: true; the input reads as it did. -/
def shapeAlikeSpec : ChangeSpec := { name := "shapeAlike", fn := fun _ => fun
  | [d1, d2, d3] => { results := [.lit (.bool true)], args := [d1, d2, d3] }
  | _ => none }
def shapeAlikeRow : OpenClaim := { program := "ytadogjnoklabdaadoor", sum := "b4e40c965814b5bd4ec27bcbece6215e08be6322433f7cdc6ff0d2cc8315d114", func := "chandlery/chandlerylaw09.ShapeAlike", spec := "shapeAlike", inPlace := ["internal/bytealg.IndexByteString"], unfollowed := true, recurses := true, named := ["chandlery/dep.words", "chandlery/span.ops"], loops := true, apart := false, laid := [("chandlery/span.ops", laid_chandlery_span_ops), ("chandlery/dep.words", laid_chandlery_dep_words)] }
def ShapeAlikeSaid : Prop := shapeAlikeRow.holds Tryd.pinned (OpenSpec.ofChange shapeAlikeSpec)

/-- ITS FALSE NEIGHBOUR: 'it returns false'. Refute it at one input. -/
def shapeAlikeWrong : ChangeSpec := { name := "shapeAlike", fn := fun _ => fun
  | [d1, d2, d3] => { results := [.lit (.bool false)], args := [d1, d2, d3] }
  | _ => none }
def ShapeAlikeWrongFalsely : Prop := shapeAlikeRow.holds Tryd.pinned (OpenSpec.ofChange shapeAlikeWrong)

/-- 'chandlerylaw09.ShapeNames': WHATEVER THE INPUT: true; the input reads as it did. -/
def shapeNamesSpec : ChangeSpec := { name := "shapeNames", fn := fun _ => fun
  | [] => { results := [.lit (.bool true)], args := [] }
  | _ => none }
def shapeNamesRow : OpenClaim := { program := "ytadogjnoklabdaadoor", sum := "b4e40c965814b5bd4ec27bcbece6215e08be6322433f7cdc6ff0d2cc8315d114", func := "chandlery/chandlerylaw09.ShapeNames", spec := "shapeNames", inPlace := ["internal/bytealg.IndexByteString"], unfollowed := true, recurses := true, named := ["chandlery/dep.words", "chandlery/span.ops"], apart := false, laid := [("chandlery/span.ops", laid_chandlery_span_ops), ("chandlery/dep.words", laid_chandlery_dep_words)] }
def ShapeNamesSaid : Prop := shapeNamesRow.holds Tryd.pinned (OpenSpec.ofChange shapeNamesSpec)

/-- ITS FALSE NEIGHBOUR: 'it returns false'. Refute it at one input. -/
def shapeNamesWrong : ChangeSpec := { name := "shapeNames", fn := fun _ => fun
  | [] => { results := [.lit (.bool false)], args := [] }
  | _ => none }
def ShapeNamesWrongFalsely : Prop := shapeNamesRow.holds Tryd.pinned (OpenSpec.ofChange shapeNamesWrong)

/-- 'chandlerylaw09.ShapeTells': WHATEVER THE INPUT: true; the input reads as it did. -/
def shapeTellsSpec : ChangeSpec := { name := "shapeTells", fn := fun _ => fun
  | [d1, d2, d3] => { results := [.lit (.bool true)], args := [d1, d2, d3] }
  | _ => none }
def shapeTellsRow : OpenClaim := { program := "ytadogjnoklabdaadoor", sum := "b4e40c965814b5bd4ec27bcbece6215e08be6322433f7cdc6ff0d2cc8315d114", func := "chandlery/chandlerylaw09.ShapeTells", spec := "shapeTells", inPlace := ["internal/bytealg.IndexByteString"], unfollowed := true, recurses := true, named := ["chandlery/dep.words", "chandlery/span.ops"], loops := true, apart := false, laid := [("chandlery/span.ops", laid_chandlery_span_ops), ("chandlery/dep.words", laid_chandlery_dep_words)] }
def ShapeTellsSaid : Prop := shapeTellsRow.holds Tryd.pinned (OpenSpec.ofChange shapeTellsSpec)

/-- ITS FALSE NEIGHBOUR: 'it returns false'. Refute it at one input. -/
def shapeTellsWrong : ChangeSpec := { name := "shapeTells", fn := fun _ => fun
  | [d1, d2, d3] => { results := [.lit (.bool false)], args := [d1, d2, d3] }
  | _ => none }
def ShapeTellsWrongFalsely : Prop := shapeTellsRow.holds Tryd.pinned (OpenSpec.ofChange shapeTellsWrong)

/- THE SECOND FORM. 'bulk': how many values and letters a reading holds, each counted each time it is reached (what is shared counts as often as it is met; a slice's spare places count too). A statement '..UptoSaid' is the law's where the arguments, and the package variables that the reading takes, are together of bulk at most 1048576: NARROWER than '..Said'. Prove '..Said' where nothing that the law and all that it calls make is longer than what came in: it says more and counts as full. Else prove '..UptoSaid'. A law counts once. -/
mutual
def uptoBulk {H : Type} : DataW H → Nat
  | .lit (.string bytes) => bytes.length + 1
  | .lit _ => 1
  | .nil => 1
  | .ptr d => uptoBulk d + 1
  | .slice elems spare => uptoBulkAll elems + uptoBulkAll spare + 1
  | .agg parts => uptoBulkAll parts + 1
  | .iface _ d => uptoBulk d + 1
  | .map entries => uptoBulkEntries entries + 1
  | .held _ => 1
def uptoBulkAll {H : Type} : List (DataW H) → Nat
  | [] => 0
  | d :: r => uptoBulk d + uptoBulkAll r
def uptoBulkEntries {H : Type} : List (Lit × DataW H) → Nat
  | [] => 0
  | x :: r => uptoBulkEntry x + uptoBulkEntries r
def uptoBulkEntry {H : Type} : Lit × DataW H → Nat
  | (.string bytes, d) => bytes.length + uptoBulk d + 1
  | (_, d) => uptoBulk d + 1
 end
def uptoSmall : (H : Type) → List (DataW H) → Bool := fun _ ds => decide (uptoBulkAll ds ≤ 1048576)
def OpenSpec.upto (s : _root_.Go.ChangeSpec) : _root_.Go.OpenSpec := { _root_.Go.OpenSpec.ofChange s with cond := some uptoSmall }

/-- 'chandlerylaw09.ShapePlaces', WHERE WHAT IT READS IS OF BULK AT MOST 1048576: true; the input reads as it did. -/
def shapePlacesUptoRow : OpenClaim := { program := "ytadogjnoklabdaadoor", sum := "b4e40c965814b5bd4ec27bcbece6215e08be6322433f7cdc6ff0d2cc8315d114", func := "chandlery/chandlerylaw09.ShapePlaces", spec := "shapePlaces", inPlace := ["internal/bytealg.IndexByteString"], unfollowed := true, recurses := true, named := ["chandlery/dep.words", "chandlery/span.ops"], loops := true, apart := false, laid := [("chandlery/span.ops", laid_chandlery_span_ops), ("chandlery/dep.words", laid_chandlery_dep_words)], narrowed := true }
def ShapePlacesUptoSaid : Prop := shapePlacesUptoRow.holds Tryd.pinned (OpenSpec.upto shapePlacesSpec)

/-- 'chandlerylaw09.ShapeJoined', WHERE WHAT IT READS IS OF BULK AT MOST 1048576: true; the input reads as it did. -/
def shapeJoinedUptoRow : OpenClaim := { program := "ytadogjnoklabdaadoor", sum := "b4e40c965814b5bd4ec27bcbece6215e08be6322433f7cdc6ff0d2cc8315d114", func := "chandlery/chandlerylaw09.ShapeJoined", spec := "shapeJoined", inPlace := ["internal/bytealg.IndexByteString"], unfollowed := true, recurses := true, named := ["chandlery/dep.words", "chandlery/span.ops"], loops := true, apart := false, laid := [("chandlery/span.ops", laid_chandlery_span_ops), ("chandlery/dep.words", laid_chandlery_dep_words)], narrowed := true }
def ShapeJoinedUptoSaid : Prop := shapeJoinedUptoRow.holds Tryd.pinned (OpenSpec.upto shapeJoinedSpec)

/-- 'chandlerylaw09.ShapeCounted', WHERE WHAT IT READS IS OF BULK AT MOST 1048576: true; the input reads as it did. -/
def shapeCountedUptoRow : OpenClaim := { program := "ytadogjnoklabdaadoor", sum := "b4e40c965814b5bd4ec27bcbece6215e08be6322433f7cdc6ff0d2cc8315d114", func := "chandlery/chandlerylaw09.ShapeCounted", spec := "shapeCounted", inPlace := ["internal/bytealg.IndexByteString"], unfollowed := true, recurses := true, named := ["chandlery/dep.words", "chandlery/span.ops"], loops := true, apart := false, laid := [("chandlery/span.ops", laid_chandlery_span_ops), ("chandlery/dep.words", laid_chandlery_dep_words)], narrowed := true }
def ShapeCountedUptoSaid : Prop := shapeCountedUptoRow.holds Tryd.pinned (OpenSpec.upto shapeCountedSpec)

/-- 'chandlerylaw09.ShapeAlike', WHERE WHAT IT READS IS OF BULK AT MOST 1048576: true; the input reads as it did. -/
def shapeAlikeUptoRow : OpenClaim := { program := "ytadogjnoklabdaadoor", sum := "b4e40c965814b5bd4ec27bcbece6215e08be6322433f7cdc6ff0d2cc8315d114", func := "chandlery/chandlerylaw09.ShapeAlike", spec := "shapeAlike", inPlace := ["internal/bytealg.IndexByteString"], unfollowed := true, recurses := true, named := ["chandlery/dep.words", "chandlery/span.ops"], loops := true, apart := false, laid := [("chandlery/span.ops", laid_chandlery_span_ops), ("chandlery/dep.words", laid_chandlery_dep_words)], narrowed := true }
def ShapeAlikeUptoSaid : Prop := shapeAlikeUptoRow.holds Tryd.pinned (OpenSpec.upto shapeAlikeSpec)

/-- 'chandlerylaw09.ShapeNames', WHERE WHAT IT READS IS OF BULK AT MOST 1048576: true; the input reads as it did. -/
def shapeNamesUptoRow : OpenClaim := { program := "ytadogjnoklabdaadoor", sum := "b4e40c965814b5bd4ec27bcbece6215e08be6322433f7cdc6ff0d2cc8315d114", func := "chandlery/chandlerylaw09.ShapeNames", spec := "shapeNames", inPlace := ["internal/bytealg.IndexByteString"], unfollowed := true, recurses := true, named := ["chandlery/dep.words", "chandlery/span.ops"], apart := false, laid := [("chandlery/span.ops", laid_chandlery_span_ops), ("chandlery/dep.words", laid_chandlery_dep_words)], narrowed := true }
def ShapeNamesUptoSaid : Prop := shapeNamesUptoRow.holds Tryd.pinned (OpenSpec.upto shapeNamesSpec)

/-- 'chandlerylaw09.ShapeTells', WHERE WHAT IT READS IS OF BULK AT MOST 1048576: true; the input reads as it did. -/
def shapeTellsUptoRow : OpenClaim := { program := "ytadogjnoklabdaadoor", sum := "b4e40c965814b5bd4ec27bcbece6215e08be6322433f7cdc6ff0d2cc8315d114", func := "chandlery/chandlerylaw09.ShapeTells", spec := "shapeTells", inPlace := ["internal/bytealg.IndexByteString"], unfollowed := true, recurses := true, named := ["chandlery/dep.words", "chandlery/span.ops"], loops := true, apart := false, laid := [("chandlery/span.ops", laid_chandlery_span_ops), ("chandlery/dep.words", laid_chandlery_dep_words)], narrowed := true }
def ShapeTellsUptoSaid : Prop := shapeTellsUptoRow.holds Tryd.pinned (OpenSpec.upto shapeTellsSpec)

end Rows
end Go.Proofs.YtadogjnoklabdaaDoor
