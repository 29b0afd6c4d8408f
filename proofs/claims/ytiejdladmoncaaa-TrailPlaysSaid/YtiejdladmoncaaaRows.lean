/-
  No cell of these rows narrows 'for every input' (looked for: loops, veiled, ifaces, maps, wideKeys, modest, calm, conditions, laid).
  DERIVED. THE GIVEN ROWS OF THIS SEAT. 5 by the template 'for every input the law returns true; each argument reads behind the call as it read before'; 0 by the template 'total and deterministic' (their statements: YtiejdladmoncaaaTotals.lean).
  GIVEN WITH THE SEED: the statements are not yours to turn. If you find one false, say at which input.
  Laid BY PROGRAM, IN A SANDBOX (cutbox-rows.mjs): the forced cells as the released guide's own fill.sh prints them over the translation f2dd27f927051aa6… (all of the seat's roots in one cut). By AI agents, Wed Nov 11 2026. No macro, syntax, notation, axiom, sorry.
-/
import Derived.Test.YtiejdladmoncaaaChecked
import GoSem.Claim
import GoSem.ClaimJoined
import GoSem.ClaimMapViews
import Derived.JoinedTies
import Derived.KernelRfl
namespace Go.Proofs.Ytiejdladmoncaaa
/- THE CELL 'sum', in the pinned program and in every row, IS THE sha256 OF THE DUMP (.gsa) THAT YtiejdladmoncaaaProg.lean LOADS. Nothing in Lean hashes anything: it is a label: what it is worth is what the hold of that sum in a sandbox is worth. -/
noncomputable def Try.pinned : Pinned := { name := "ytiejdladmoncaaa", sum := "f2dd27f927051aa6d9ecf640b38121eaae351e69e71dbd51f4d7cf437ce96fef", checked := Try.checked }
namespace Rows
def none {H : Type} : Left H := { results := [], args := [] }

/-- 'chandlerylaw19.TrailOnce': WHATEVER THE INPUT: true; the input reads as it did. -/
def trailOnceSpec : ChangeSpec := { name := "trailOnce", fn := fun _ => fun
  | [d1, d2] => { results := [.lit (.bool true)], args := [d1, d2] }
  | _ => none }
def trailOnceRow : OpenClaim := { program := "ytiejdladmoncaaa", sum := "f2dd27f927051aa6d9ecf640b38121eaae351e69e71dbd51f4d7cf437ce96fef", func := "chandlery/chandlerylaw19.TrailOnce", spec := "trailOnce", apart := false }
def TrailOnceSaid : Prop := trailOnceRow.holds Try.pinned (OpenSpec.ofChange trailOnceSpec)

/-- ITS FALSE NEIGHBOUR: 'it returns false'. Refute it at one input. -/
def trailOnceWrong : ChangeSpec := { name := "trailOnce", fn := fun _ => fun
  | [d1, d2] => { results := [.lit (.bool false)], args := [d1, d2] }
  | _ => none }
def TrailOnceWrongFalsely : Prop := trailOnceRow.holds Try.pinned (OpenSpec.ofChange trailOnceWrong)

/-- 'chandlerylaw19.TrailJust': WHATEVER THE INPUT: true; the input reads as it did. -/
def trailJustSpec : ChangeSpec := { name := "trailJust", fn := fun _ => fun
  | [d1, d2, d3, d4] => { results := [.lit (.bool true)], args := [d1, d2, d3, d4] }
  | _ => none }
def trailJustRow : OpenClaim := { program := "ytiejdladmoncaaa", sum := "f2dd27f927051aa6d9ecf640b38121eaae351e69e71dbd51f4d7cf437ce96fef", func := "chandlery/chandlerylaw19.TrailJust", spec := "trailJust", apart := false }
def TrailJustSaid : Prop := trailJustRow.holds Try.pinned (OpenSpec.ofChange trailJustSpec)

/-- ITS FALSE NEIGHBOUR: 'it returns false'. Refute it at one input. -/
def trailJustWrong : ChangeSpec := { name := "trailJust", fn := fun _ => fun
  | [d1, d2, d3, d4] => { results := [.lit (.bool false)], args := [d1, d2, d3, d4] }
  | _ => none }
def TrailJustWrongFalsely : Prop := trailJustRow.holds Try.pinned (OpenSpec.ofChange trailJustWrong)

/-- 'chandlerylaw19.TrailBack': WHATEVER THE INPUT: true; the input reads as it did. -/
def trailBackSpec : ChangeSpec := { name := "trailBack", fn := fun _ => fun
  | [d1, d2, d3, d4] => { results := [.lit (.bool true)], args := [d1, d2, d3, d4] }
  | _ => none }
def trailBackRow : OpenClaim := { program := "ytiejdladmoncaaa", sum := "f2dd27f927051aa6d9ecf640b38121eaae351e69e71dbd51f4d7cf437ce96fef", func := "chandlery/chandlerylaw19.TrailBack", spec := "trailBack", apart := false }
def TrailBackSaid : Prop := trailBackRow.holds Try.pinned (OpenSpec.ofChange trailBackSpec)

/-- ITS FALSE NEIGHBOUR: 'it returns false'. Refute it at one input. -/
def trailBackWrong : ChangeSpec := { name := "trailBack", fn := fun _ => fun
  | [d1, d2, d3, d4] => { results := [.lit (.bool false)], args := [d1, d2, d3, d4] }
  | _ => none }
def TrailBackWrongFalsely : Prop := trailBackRow.holds Try.pinned (OpenSpec.ofChange trailBackWrong)

/-- 'chandlerylaw19.TrailNames': WHATEVER THE INPUT: true; the input reads as it did. -/
def trailNamesSpec : ChangeSpec := { name := "trailNames", fn := fun _ => fun
  | [] => { results := [.lit (.bool true)], args := [] }
  | _ => none }
def trailNamesRow : OpenClaim := { program := "ytiejdladmoncaaa", sum := "f2dd27f927051aa6d9ecf640b38121eaae351e69e71dbd51f4d7cf437ce96fef", func := "chandlery/chandlerylaw19.TrailNames", spec := "trailNames", apart := false }
def TrailNamesSaid : Prop := trailNamesRow.holds Try.pinned (OpenSpec.ofChange trailNamesSpec)

/-- ITS FALSE NEIGHBOUR: 'it returns false'. Refute it at one input. -/
def trailNamesWrong : ChangeSpec := { name := "trailNames", fn := fun _ => fun
  | [] => { results := [.lit (.bool false)], args := [] }
  | _ => none }
def TrailNamesWrongFalsely : Prop := trailNamesRow.holds Try.pinned (OpenSpec.ofChange trailNamesWrong)

/-- 'chandlerylaw19.TrailPlays': WHATEVER THE INPUT: true; the input reads as it did. -/
def trailPlaysSpec : ChangeSpec := { name := "trailPlays", fn := fun _ => fun
  | [d1, d2] => { results := [.lit (.bool true)], args := [d1, d2] }
  | _ => none }
def trailPlaysRow : OpenClaim := { program := "ytiejdladmoncaaa", sum := "f2dd27f927051aa6d9ecf640b38121eaae351e69e71dbd51f4d7cf437ce96fef", func := "chandlery/chandlerylaw19.TrailPlays", spec := "trailPlays", apart := false }
def TrailPlaysSaid : Prop := trailPlaysRow.holds Try.pinned (OpenSpec.ofChange trailPlaysSpec)

/-- ITS FALSE NEIGHBOUR: 'it returns false'. Refute it at one input. -/
def trailPlaysWrong : ChangeSpec := { name := "trailPlays", fn := fun _ => fun
  | [d1, d2] => { results := [.lit (.bool false)], args := [d1, d2] }
  | _ => none }
def TrailPlaysWrongFalsely : Prop := trailPlaysRow.holds Try.pinned (OpenSpec.ofChange trailPlaysWrong)

/- THE SECOND FORM. 'bulk': how many values and letters a reading holds, each counted each time it is reached (what is shared counts as often as it is met; a slice's spare places count too). A statement '..UptoSaid' is the law's where the arguments, and the package variables that the reading takes, are together of bulk at most 1048576: NARROWER than '..Said'. Prove '..Said' where nothing that the law and all that it calls make is longer than what came in: it says more and counts as full. Else prove '..UptoSaid'. A law counts once. -/
mutual
def uptoBulk {H : Type} : DataW H → Nat
  | .lit (.string bytes) => bytes.length + 1
  | .lit _ => 1
  | .nil => 1
  | .ptr d => uptoBulk d + 1
  | .slice elems spare => uptoBulkAll elems + uptoBulkAll spare + 1
  | .agg parts => uptoBulkAll parts + 1
  | .iface _ d => uptoBulk d + 1
  | .map entries => uptoBulkEntries entries + 1
  | .held _ => 1
def uptoBulkAll {H : Type} : List (DataW H) → Nat
  | [] => 0
  | d :: r => uptoBulk d + uptoBulkAll r
def uptoBulkEntries {H : Type} : List (Lit × DataW H) → Nat
  | [] => 0
  | x :: r => uptoBulkEntry x + uptoBulkEntries r
def uptoBulkEntry {H : Type} : Lit × DataW H → Nat
  | (.string bytes, d) => bytes.length + uptoBulk d + 1
  | (_, d) => uptoBulk d + 1
 end
def uptoSmall : (H : Type) → List (DataW H) → Bool := fun _ ds => decide (uptoBulkAll ds ≤ 1048576)
def OpenSpec.upto (s : _root_.Go.ChangeSpec) : _root_.Go.OpenSpec := { _root_.Go.OpenSpec.ofChange s with cond := some uptoSmall }

/-- 'chandlerylaw19.TrailOnce', WHERE WHAT IT READS IS OF BULK AT MOST 1048576: true; the input reads as it did. -/
def trailOnceUptoRow : OpenClaim := { program := "ytiejdladmoncaaa", sum := "f2dd27f927051aa6d9ecf640b38121eaae351e69e71dbd51f4d7cf437ce96fef", func := "chandlery/chandlerylaw19.TrailOnce", spec := "trailOnce", apart := false, narrowed := true }
def TrailOnceUptoSaid : Prop := trailOnceUptoRow.holds Try.pinned (OpenSpec.upto trailOnceSpec)

/-- 'chandlerylaw19.TrailJust', WHERE WHAT IT READS IS OF BULK AT MOST 1048576: true; the input reads as it did. -/
def trailJustUptoRow : OpenClaim := { program := "ytiejdladmoncaaa", sum := "f2dd27f927051aa6d9ecf640b38121eaae351e69e71dbd51f4d7cf437ce96fef", func := "chandlery/chandlerylaw19.TrailJust", spec := "trailJust", apart := false, narrowed := true }
def TrailJustUptoSaid : Prop := trailJustUptoRow.holds Try.pinned (OpenSpec.upto trailJustSpec)

/-- 'chandlerylaw19.TrailBack', WHERE WHAT IT READS IS OF BULK AT MOST 1048576: true; the input reads as it did. -/
def trailBackUptoRow : OpenClaim := { program := "ytiejdladmoncaaa", sum := "f2dd27f927051aa6d9ecf640b38121eaae351e69e71dbd51f4d7cf437ce96fef", func := "chandlery/chandlerylaw19.TrailBack", spec := "trailBack", apart := false, narrowed := true }
def TrailBackUptoSaid : Prop := trailBackUptoRow.holds Try.pinned (OpenSpec.upto trailBackSpec)

/-- 'chandlerylaw19.TrailNames', WHERE WHAT IT READS IS OF BULK AT MOST 1048576: true; the input reads as it did. -/
def trailNamesUptoRow : OpenClaim := { program := "ytiejdladmoncaaa", sum := "f2dd27f927051aa6d9ecf640b38121eaae351e69e71dbd51f4d7cf437ce96fef", func := "chandlery/chandlerylaw19.TrailNames", spec := "trailNames", apart := false, narrowed := true }
def TrailNamesUptoSaid : Prop := trailNamesUptoRow.holds Try.pinned (OpenSpec.upto trailNamesSpec)

/-- 'chandlerylaw19.TrailPlays', WHERE WHAT IT READS IS OF BULK AT MOST 1048576: true; the input reads as it did. -/
def trailPlaysUptoRow : OpenClaim := { program := "ytiejdladmoncaaa", sum := "f2dd27f927051aa6d9ecf640b38121eaae351e69e71dbd51f4d7cf437ce96fef", func := "chandlery/chandlerylaw19.TrailPlays", spec := "trailPlays", apart := false, narrowed := true }
def TrailPlaysUptoSaid : Prop := trailPlaysUptoRow.holds Try.pinned (OpenSpec.upto trailPlaysSpec)

end Rows
end Go.Proofs.Ytiejdladmoncaaa
