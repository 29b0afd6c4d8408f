/-
  No cell of these rows narrows 'for every input' (looked for: loops, veiled, ifaces, maps, wideKeys, modest, calm, conditions, laid).
  DERIVED. THE GIVEN ROWS OF THIS SEAT. 6 by the template 'for every input the law returns true; each argument reads behind the call as it read before'; 0 by the template 'total and deterministic' (their statements: YthinopiobihmaaaTotals.lean).
  GIVEN WITH THE SEED: the statements are not yours to turn. If you find one false, say at which input.
  Laid BY PROGRAM, IN A SANDBOX (cutbox-rows.mjs): the forced cells as the released guide's own fill.sh prints them over the translation 79aa7c613076298e… (all of the seat's roots in one cut). By AI agents, Wed Nov 11 2026. No macro, syntax, notation, axiom, sorry.
-/
import Derived.Test.YthinopiobihmaaaChecked
import GoSem.Claim
import GoSem.ClaimJoined
import GoSem.ClaimMapViews
import Derived.JoinedTies
import Derived.KernelRfl
namespace Go.Proofs.Ythinopiobihmaaa
/- THE CELL 'sum', in the pinned program and in every row, IS THE sha256 OF THE DUMP (.gsa) THAT YthinopiobihmaaaProg.lean LOADS. Nothing in Lean hashes anything: it is a label: what it is worth is what the hold of that sum in a sandbox is worth. -/
noncomputable def Try.pinned : Pinned := { name := "ythinopiobihmaaa", sum := "79aa7c613076298e3fafe5b9f8c9dd74640145ade2ee4a1ed08ef7558e76ff3f", checked := Try.checked }
namespace Rows
def none {H : Type} : Left H := { results := [], args := [] }

/-- 'chandlerylaw24.MusTells': WHATEVER THE INPUT: true; the input reads as it did. -/
def musTellsSpec : ChangeSpec := { name := "musTells", fn := fun _ => fun
  | [d1, d2, d3, d4] => { results := [.lit (.bool true)], args := [d1, d2, d3, d4] }
  | _ => none }
def musTellsRow : OpenClaim := { program := "ythinopiobihmaaa", sum := "79aa7c613076298e3fafe5b9f8c9dd74640145ade2ee4a1ed08ef7558e76ff3f", func := "chandlery/chandlerylaw24.MusTells", spec := "musTells", unfollowed := true, recurses := true, apart := false }
def MusTellsSaid : Prop := musTellsRow.holds Try.pinned (OpenSpec.ofChange musTellsSpec)

/-- ITS FALSE NEIGHBOUR: 'it returns false'. Refute it at one input. -/
def musTellsWrong : ChangeSpec := { name := "musTells", fn := fun _ => fun
  | [d1, d2, d3, d4] => { results := [.lit (.bool false)], args := [d1, d2, d3, d4] }
  | _ => none }
def MusTellsWrongFalsely : Prop := musTellsRow.holds Try.pinned (OpenSpec.ofChange musTellsWrong)

/-- 'chandlerylaw24.MusAlone': WHATEVER THE INPUT: true; the input reads as it did. -/
def musAloneSpec : ChangeSpec := { name := "musAlone", fn := fun _ => fun
  | [d1, d2, d3, d4] => { results := [.lit (.bool true)], args := [d1, d2, d3, d4] }
  | _ => none }
def musAloneRow : OpenClaim := { program := "ythinopiobihmaaa", sum := "79aa7c613076298e3fafe5b9f8c9dd74640145ade2ee4a1ed08ef7558e76ff3f", func := "chandlery/chandlerylaw24.MusAlone", spec := "musAlone", unfollowed := true, recurses := true, apart := false }
def MusAloneSaid : Prop := musAloneRow.holds Try.pinned (OpenSpec.ofChange musAloneSpec)

/-- ITS FALSE NEIGHBOUR: 'it returns false'. Refute it at one input. -/
def musAloneWrong : ChangeSpec := { name := "musAlone", fn := fun _ => fun
  | [d1, d2, d3, d4] => { results := [.lit (.bool false)], args := [d1, d2, d3, d4] }
  | _ => none }
def MusAloneWrongFalsely : Prop := musAloneRow.holds Try.pinned (OpenSpec.ofChange musAloneWrong)

/-- 'chandlerylaw24.MusRow': WHATEVER THE INPUT: true; the input reads as it did. -/
def musRowSpec : ChangeSpec := { name := "musRow", fn := fun _ => fun
  | [d1, d2, d3, d4] => { results := [.lit (.bool true)], args := [d1, d2, d3, d4] }
  | _ => none }
def musRowRow : OpenClaim := { program := "ythinopiobihmaaa", sum := "79aa7c613076298e3fafe5b9f8c9dd74640145ade2ee4a1ed08ef7558e76ff3f", func := "chandlery/chandlerylaw24.MusRow", spec := "musRow", unfollowed := true, recurses := true, apart := false }
def MusRowSaid : Prop := musRowRow.holds Try.pinned (OpenSpec.ofChange musRowSpec)

/-- ITS FALSE NEIGHBOUR: 'it returns false'. Refute it at one input. -/
def musRowWrong : ChangeSpec := { name := "musRow", fn := fun _ => fun
  | [d1, d2, d3, d4] => { results := [.lit (.bool false)], args := [d1, d2, d3, d4] }
  | _ => none }
def MusRowWrongFalsely : Prop := musRowRow.holds Try.pinned (OpenSpec.ofChange musRowWrong)

/-- 'chandlerylaw24.MusEnough': WHATEVER THE INPUT: true; the input reads as it did. -/
def musEnoughSpec : ChangeSpec := { name := "musEnough", fn := fun _ => fun
  | [d1, d2] => { results := [.lit (.bool true)], args := [d1, d2] }
  | _ => none }
def musEnoughRow : OpenClaim := { program := "ythinopiobihmaaa", sum := "79aa7c613076298e3fafe5b9f8c9dd74640145ade2ee4a1ed08ef7558e76ff3f", func := "chandlery/chandlerylaw24.MusEnough", spec := "musEnough", unfollowed := true, recurses := true, apart := false }
def MusEnoughSaid : Prop := musEnoughRow.holds Try.pinned (OpenSpec.ofChange musEnoughSpec)

/-- ITS FALSE NEIGHBOUR: 'it returns false'. Refute it at one input. -/
def musEnoughWrong : ChangeSpec := { name := "musEnough", fn := fun _ => fun
  | [d1, d2] => { results := [.lit (.bool false)], args := [d1, d2] }
  | _ => none }
def MusEnoughWrongFalsely : Prop := musEnoughRow.holds Try.pinned (OpenSpec.ofChange musEnoughWrong)

/-- 'chandlerylaw24.MusNames': WHATEVER THE INPUT: true; the input reads as it did. -/
def musNamesSpec : ChangeSpec := { name := "musNames", fn := fun _ => fun
  | [] => { results := [.lit (.bool true)], args := [] }
  | _ => none }
def musNamesRow : OpenClaim := { program := "ythinopiobihmaaa", sum := "79aa7c613076298e3fafe5b9f8c9dd74640145ade2ee4a1ed08ef7558e76ff3f", func := "chandlery/chandlerylaw24.MusNames", spec := "musNames", unfollowed := true, recurses := true, apart := false }
def MusNamesSaid : Prop := musNamesRow.holds Try.pinned (OpenSpec.ofChange musNamesSpec)

/-- ITS FALSE NEIGHBOUR: 'it returns false'. Refute it at one input. -/
def musNamesWrong : ChangeSpec := { name := "musNames", fn := fun _ => fun
  | [] => { results := [.lit (.bool false)], args := [] }
  | _ => none }
def MusNamesWrongFalsely : Prop := musNamesRow.holds Try.pinned (OpenSpec.ofChange musNamesWrong)

/-- 'chandlerylaw24.MusLeast': WHATEVER THE INPUT: true; the input reads as it did. -/
def musLeastSpec : ChangeSpec := { name := "musLeast", fn := fun _ => fun
  | [d1, d2, d3] => { results := [.lit (.bool true)], args := [d1, d2, d3] }
  | _ => none }
def musLeastRow : OpenClaim := { program := "ythinopiobihmaaa", sum := "79aa7c613076298e3fafe5b9f8c9dd74640145ade2ee4a1ed08ef7558e76ff3f", func := "chandlery/chandlerylaw24.MusLeast", spec := "musLeast", unfollowed := true, recurses := true, apart := false }
def MusLeastSaid : Prop := musLeastRow.holds Try.pinned (OpenSpec.ofChange musLeastSpec)

/-- ITS FALSE NEIGHBOUR: 'it returns false'. Refute it at one input. -/
def musLeastWrong : ChangeSpec := { name := "musLeast", fn := fun _ => fun
  | [d1, d2, d3] => { results := [.lit (.bool false)], args := [d1, d2, d3] }
  | _ => none }
def MusLeastWrongFalsely : Prop := musLeastRow.holds Try.pinned (OpenSpec.ofChange musLeastWrong)

/- THE SECOND FORM. 'bulk': how many values and letters a reading holds, each counted each time it is reached (what is shared counts as often as it is met; a slice's spare places count too). A statement '..UptoSaid' is the law's where the arguments, and the package variables that the reading takes, are together of bulk at most 1048576: NARROWER than '..Said'. Prove '..Said' where nothing that the law and all that it calls make is longer than what came in: it says more and counts as full. Else prove '..UptoSaid'. A law counts once. -/
mutual
def uptoBulk {H : Type} : DataW H → Nat
  | .lit (.string bytes) => bytes.length + 1
  | .lit _ => 1
  | .nil => 1
  | .ptr d => uptoBulk d + 1
  | .slice elems spare => uptoBulkAll elems + uptoBulkAll spare + 1
  | .agg parts => uptoBulkAll parts + 1
  | .iface _ d => uptoBulk d + 1
  | .map entries => uptoBulkEntries entries + 1
  | .held _ => 1
def uptoBulkAll {H : Type} : List (DataW H) → Nat
  | [] => 0
  | d :: r => uptoBulk d + uptoBulkAll r
def uptoBulkEntries {H : Type} : List (Lit × DataW H) → Nat
  | [] => 0
  | x :: r => uptoBulkEntry x + uptoBulkEntries r
def uptoBulkEntry {H : Type} : Lit × DataW H → Nat
  | (.string bytes, d) => bytes.length + uptoBulk d + 1
  | (_, d) => uptoBulk d + 1
 end
def uptoSmall : (H : Type) → List (DataW H) → Bool := fun _ ds => decide (uptoBulkAll ds ≤ 1048576)
def OpenSpec.upto (s : _root_.Go.ChangeSpec) : _root_.Go.OpenSpec := { _root_.Go.OpenSpec.ofChange s with cond := some uptoSmall }

/-- 'chandlerylaw24.MusTells', WHERE WHAT IT READS IS OF BULK AT MOST 1048576: true; the input reads as it did. -/
def musTellsUptoRow : OpenClaim := { program := "ythinopiobihmaaa", sum := "79aa7c613076298e3fafe5b9f8c9dd74640145ade2ee4a1ed08ef7558e76ff3f", func := "chandlery/chandlerylaw24.MusTells", spec := "musTells", unfollowed := true, recurses := true, apart := false, narrowed := true }
def MusTellsUptoSaid : Prop := musTellsUptoRow.holds Try.pinned (OpenSpec.upto musTellsSpec)

/-- 'chandlerylaw24.MusAlone', WHERE WHAT IT READS IS OF BULK AT MOST 1048576: true; the input reads as it did. -/
def musAloneUptoRow : OpenClaim := { program := "ythinopiobihmaaa", sum := "79aa7c613076298e3fafe5b9f8c9dd74640145ade2ee4a1ed08ef7558e76ff3f", func := "chandlery/chandlerylaw24.MusAlone", spec := "musAlone", unfollowed := true, recurses := true, apart := false, narrowed := true }
def MusAloneUptoSaid : Prop := musAloneUptoRow.holds Try.pinned (OpenSpec.upto musAloneSpec)

/-- 'chandlerylaw24.MusRow', WHERE WHAT IT READS IS OF BULK AT MOST 1048576: true; the input reads as it did. -/
def musRowUptoRow : OpenClaim := { program := "ythinopiobihmaaa", sum := "79aa7c613076298e3fafe5b9f8c9dd74640145ade2ee4a1ed08ef7558e76ff3f", func := "chandlery/chandlerylaw24.MusRow", spec := "musRow", unfollowed := true, recurses := true, apart := false, narrowed := true }
def MusRowUptoSaid : Prop := musRowUptoRow.holds Try.pinned (OpenSpec.upto musRowSpec)

/-- 'chandlerylaw24.MusEnough', WHERE WHAT IT READS IS OF BULK AT MOST 1048576: true; the input reads as it did. -/
def musEnoughUptoRow : OpenClaim := { program := "ythinopiobihmaaa", sum := "79aa7c613076298e3fafe5b9f8c9dd74640145ade2ee4a1ed08ef7558e76ff3f", func := "chandlery/chandlerylaw24.MusEnough", spec := "musEnough", unfollowed := true, recurses := true, apart := false, narrowed := true }
def MusEnoughUptoSaid : Prop := musEnoughUptoRow.holds Try.pinned (OpenSpec.upto musEnoughSpec)

/-- 'chandlerylaw24.MusNames', WHERE WHAT IT READS IS OF BULK AT MOST 1048576: true; the input reads as it did. -/
def musNamesUptoRow : OpenClaim := { program := "ythinopiobihmaaa", sum := "79aa7c613076298e3fafe5b9f8c9dd74640145ade2ee4a1ed08ef7558e76ff3f", func := "chandlery/chandlerylaw24.MusNames", spec := "musNames", unfollowed := true, recurses := true, apart := false, narrowed := true }
def MusNamesUptoSaid : Prop := musNamesUptoRow.holds Try.pinned (OpenSpec.upto musNamesSpec)

/-- 'chandlerylaw24.MusLeast', WHERE WHAT IT READS IS OF BULK AT MOST 1048576: true; the input reads as it did. -/
def musLeastUptoRow : OpenClaim := { program := "ythinopiobihmaaa", sum := "79aa7c613076298e3fafe5b9f8c9dd74640145ade2ee4a1ed08ef7558e76ff3f", func := "chandlery/chandlerylaw24.MusLeast", spec := "musLeast", unfollowed := true, recurses := true, apart := false, narrowed := true }
def MusLeastUptoSaid : Prop := musLeastUptoRow.holds Try.pinned (OpenSpec.upto musLeastSpec)

end Rows
end Go.Proofs.Ythinopiobihmaaa
