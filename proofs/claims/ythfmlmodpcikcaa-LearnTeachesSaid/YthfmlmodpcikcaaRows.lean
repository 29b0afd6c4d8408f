/-
  No cell of these rows narrows 'for every input' (looked for: loops, veiled, ifaces, maps, wideKeys, modest, calm, conditions, laid).
  DERIVED. THE GIVEN ROWS OF THIS SEAT. 4 by the template 'for every input the law returns true; each argument reads behind the call as it read before'; 0 by the template 'total and deterministic' (their statements: YthfmlmodpcikcaaTotals.lean).
  GIVEN WITH THE SEED: the statements are not yours to turn. If you find one false, say at which input.
  Laid BY PROGRAM, IN A SANDBOX (cutbox-rows.mjs): the forced cells as the released guide's own fill.sh prints them over the translation 204ac8234ca220f9… (all of the seat's roots in one cut). By AI agents, Wed Nov 11 2026. No macro, syntax, notation, axiom, sorry.
-/
import Derived.Test.YthfmlmodpcikcaaChecked
import GoSem.Claim
import GoSem.ClaimJoined
import GoSem.ClaimMapViews
import Derived.JoinedTies
import Derived.KernelRfl
namespace Go.Proofs.Ythfmlmodpcikcaa
/- THE CELL 'sum', in the pinned program and in every row, IS THE sha256 OF THE DUMP (.gsa) THAT YthfmlmodpcikcaaProg.lean LOADS. Nothing in Lean hashes anything: it is a label: what it is worth is what the hold of that sum in a sandbox is worth. -/
noncomputable def Try.pinned : Pinned := { name := "ythfmlmodpcikcaa", sum := "204ac8234ca220f94782052f483de9d91f4bd402e05e3ea9503b80d9f29d5e5a", checked := Try.checked }
namespace Rows
def none {H : Type} : Left H := { results := [], args := [] }

/-- 'chandlerylaw21.LearnNames': WHATEVER THE INPUT: true; the input reads as it did. -/
def learnNamesSpec : ChangeSpec := { name := "learnNames", fn := fun _ => fun
  | [] => { results := [.lit (.bool true)], args := [] }
  | _ => none }
def learnNamesRow : OpenClaim := { program := "ythfmlmodpcikcaa", sum := "204ac8234ca220f94782052f483de9d91f4bd402e05e3ea9503b80d9f29d5e5a", func := "chandlery/chandlerylaw21.LearnNames", spec := "learnNames", unfollowed := true, recurses := true, apart := false }
def LearnNamesSaid : Prop := learnNamesRow.holds Try.pinned (OpenSpec.ofChange learnNamesSpec)

/-- ITS FALSE NEIGHBOUR: 'it returns false'. Refute it at one input. -/
def learnNamesWrong : ChangeSpec := { name := "learnNames", fn := fun _ => fun
  | [] => { results := [.lit (.bool false)], args := [] }
  | _ => none }
def LearnNamesWrongFalsely : Prop := learnNamesRow.holds Try.pinned (OpenSpec.ofChange learnNamesWrong)

/-- 'chandlerylaw21.LearnTeaches': WHATEVER THE INPUT: true; the input reads as it did. -/
def learnTeachesSpec : ChangeSpec := { name := "learnTeaches", fn := fun _ => fun
  | [d1, d2, d3, d4] => { results := [.lit (.bool true)], args := [d1, d2, d3, d4] }
  | _ => none }
def learnTeachesRow : OpenClaim := { program := "ythfmlmodpcikcaa", sum := "204ac8234ca220f94782052f483de9d91f4bd402e05e3ea9503b80d9f29d5e5a", func := "chandlery/chandlerylaw21.LearnTeaches", spec := "learnTeaches", unfollowed := true, recurses := true, apart := false }
def LearnTeachesSaid : Prop := learnTeachesRow.holds Try.pinned (OpenSpec.ofChange learnTeachesSpec)

/-- ITS FALSE NEIGHBOUR: 'it returns false'. Refute it at one input. -/
def learnTeachesWrong : ChangeSpec := { name := "learnTeaches", fn := fun _ => fun
  | [d1, d2, d3, d4] => { results := [.lit (.bool false)], args := [d1, d2, d3, d4] }
  | _ => none }
def LearnTeachesWrongFalsely : Prop := learnTeachesRow.holds Try.pinned (OpenSpec.ofChange learnTeachesWrong)

/-- 'chandlerylaw21.LearnFollows': WHATEVER THE INPUT: true; the input reads as it did. -/
def learnFollowsSpec : ChangeSpec := { name := "learnFollows", fn := fun _ => fun
  | [d1, d2, d3, d4] => { results := [.lit (.bool true)], args := [d1, d2, d3, d4] }
  | _ => none }
def learnFollowsRow : OpenClaim := { program := "ythfmlmodpcikcaa", sum := "204ac8234ca220f94782052f483de9d91f4bd402e05e3ea9503b80d9f29d5e5a", func := "chandlery/chandlerylaw21.LearnFollows", spec := "learnFollows", unfollowed := true, recurses := true, apart := false }
def LearnFollowsSaid : Prop := learnFollowsRow.holds Try.pinned (OpenSpec.ofChange learnFollowsSpec)

/-- ITS FALSE NEIGHBOUR: 'it returns false'. Refute it at one input. -/
def learnFollowsWrong : ChangeSpec := { name := "learnFollows", fn := fun _ => fun
  | [d1, d2, d3, d4] => { results := [.lit (.bool false)], args := [d1, d2, d3, d4] }
  | _ => none }
def LearnFollowsWrongFalsely : Prop := learnFollowsRow.holds Try.pinned (OpenSpec.ofChange learnFollowsWrong)

/-- 'chandlerylaw21.LearnTurns': WHATEVER THE INPUT: true; the input reads as it did. -/
def learnTurnsSpec : ChangeSpec := { name := "learnTurns", fn := fun _ => fun
  | [d1, d2, d3, d4] => { results := [.lit (.bool true)], args := [d1, d2, d3, d4] }
  | _ => none }
def learnTurnsRow : OpenClaim := { program := "ythfmlmodpcikcaa", sum := "204ac8234ca220f94782052f483de9d91f4bd402e05e3ea9503b80d9f29d5e5a", func := "chandlery/chandlerylaw21.LearnTurns", spec := "learnTurns", unfollowed := true, recurses := true, apart := false }
def LearnTurnsSaid : Prop := learnTurnsRow.holds Try.pinned (OpenSpec.ofChange learnTurnsSpec)

/-- ITS FALSE NEIGHBOUR: 'it returns false'. Refute it at one input. -/
def learnTurnsWrong : ChangeSpec := { name := "learnTurns", fn := fun _ => fun
  | [d1, d2, d3, d4] => { results := [.lit (.bool false)], args := [d1, d2, d3, d4] }
  | _ => none }
def LearnTurnsWrongFalsely : Prop := learnTurnsRow.holds Try.pinned (OpenSpec.ofChange learnTurnsWrong)

/- THE SECOND FORM. 'bulk': how many values and letters a reading holds, each counted each time it is reached (what is shared counts as often as it is met; a slice's spare places count too). A statement '..UptoSaid' is the law's where the arguments, and the package variables that the reading takes, are together of bulk at most 1048576: NARROWER than '..Said'. Prove '..Said' where nothing that the law and all that it calls make is longer than what came in: it says more and counts as full. Else prove '..UptoSaid'. A law counts once. -/
mutual
def uptoBulk {H : Type} : DataW H → Nat
  | .lit (.string bytes) => bytes.length + 1
  | .lit _ => 1
  | .nil => 1
  | .ptr d => uptoBulk d + 1
  | .slice elems spare => uptoBulkAll elems + uptoBulkAll spare + 1
  | .agg parts => uptoBulkAll parts + 1
  | .iface _ d => uptoBulk d + 1
  | .map entries => uptoBulkEntries entries + 1
  | .held _ => 1
def uptoBulkAll {H : Type} : List (DataW H) → Nat
  | [] => 0
  | d :: r => uptoBulk d + uptoBulkAll r
def uptoBulkEntries {H : Type} : List (Lit × DataW H) → Nat
  | [] => 0
  | x :: r => uptoBulkEntry x + uptoBulkEntries r
def uptoBulkEntry {H : Type} : Lit × DataW H → Nat
  | (.string bytes, d) => bytes.length + uptoBulk d + 1
  | (_, d) => uptoBulk d + 1
 end
def uptoSmall : (H : Type) → List (DataW H) → Bool := fun _ ds => decide (uptoBulkAll ds ≤ 1048576)
def OpenSpec.upto (s : _root_.Go.ChangeSpec) : _root_.Go.OpenSpec := { _root_.Go.OpenSpec.ofChange s with cond := some uptoSmall }

/-- 'chandlerylaw21.LearnNames', WHERE WHAT IT READS IS OF BULK AT MOST 1048576: true; the input reads as it did. -/
def learnNamesUptoRow : OpenClaim := { program := "ythfmlmodpcikcaa", sum := "204ac8234ca220f94782052f483de9d91f4bd402e05e3ea9503b80d9f29d5e5a", func := "chandlery/chandlerylaw21.LearnNames", spec := "learnNames", unfollowed := true, recurses := true, apart := false, narrowed := true }
def LearnNamesUptoSaid : Prop := learnNamesUptoRow.holds Try.pinned (OpenSpec.upto learnNamesSpec)

/-- 'chandlerylaw21.LearnTeaches', WHERE WHAT IT READS IS OF BULK AT MOST 1048576: true; the input reads as it did. -/
def learnTeachesUptoRow : OpenClaim := { program := "ythfmlmodpcikcaa", sum := "204ac8234ca220f94782052f483de9d91f4bd402e05e3ea9503b80d9f29d5e5a", func := "chandlery/chandlerylaw21.LearnTeaches", spec := "learnTeaches", unfollowed := true, recurses := true, apart := false, narrowed := true }
def LearnTeachesUptoSaid : Prop := learnTeachesUptoRow.holds Try.pinned (OpenSpec.upto learnTeachesSpec)

/-- 'chandlerylaw21.LearnFollows', WHERE WHAT IT READS IS OF BULK AT MOST 1048576: true; the input reads as it did. -/
def learnFollowsUptoRow : OpenClaim := { program := "ythfmlmodpcikcaa", sum := "204ac8234ca220f94782052f483de9d91f4bd402e05e3ea9503b80d9f29d5e5a", func := "chandlery/chandlerylaw21.LearnFollows", spec := "learnFollows", unfollowed := true, recurses := true, apart := false, narrowed := true }
def LearnFollowsUptoSaid : Prop := learnFollowsUptoRow.holds Try.pinned (OpenSpec.upto learnFollowsSpec)

/-- 'chandlerylaw21.LearnTurns', WHERE WHAT IT READS IS OF BULK AT MOST 1048576: true; the input reads as it did. -/
def learnTurnsUptoRow : OpenClaim := { program := "ythfmlmodpcikcaa", sum := "204ac8234ca220f94782052f483de9d91f4bd402e05e3ea9503b80d9f29d5e5a", func := "chandlery/chandlerylaw21.LearnTurns", spec := "learnTurns", unfollowed := true, recurses := true, apart := false, narrowed := true }
def LearnTurnsUptoSaid : Prop := learnTurnsUptoRow.holds Try.pinned (OpenSpec.upto learnTurnsSpec)

end Rows
end Go.Proofs.Ythfmlmodpcikcaa
