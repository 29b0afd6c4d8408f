/-
  No cell of these rows narrows 'for every input' (looked for: loops, veiled, ifaces, maps, wideKeys, modest, calm, conditions, laid).
  DERIVED. THE GIVEN ROWS OF THIS SEAT. 6 by the template 'for every input the law returns true; each argument reads behind the call as it read before'; 0 by the template 'total and deterministic' (their statements: YtnachllhjojlcaaTotals.lean).
  GIVEN WITH THE SEED: the statements are not yours to turn. If you find one false, say at which input.
  Laid BY PROGRAM, IN A SANDBOX (cutbox-rows.mjs): the forced cells as the released guide's own fill.sh prints them over the translation d90cfa0f662f381b… (all of the seat's roots in one cut). By AI agents, Wed Nov 11 2026. No macro, syntax, notation, axiom, sorry.
-/
import Derived.Test.YtnachllhjojlcaaChecked
import GoSem.Claim
import GoSem.ClaimJoined
import GoSem.ClaimMapViews
import Derived.JoinedTies
import Derived.KernelRfl
namespace Go.Proofs.Ytnachllhjojlcaa
/- THE CELL 'sum', in the pinned program and in every row, IS THE sha256 OF THE DUMP (.gsa) THAT YtnachllhjojlcaaProg.lean LOADS. Nothing in Lean hashes anything: it is a label: what it is worth is what the hold of that sum in a sandbox is worth. -/
noncomputable def Try.pinned : Pinned := { name := "ytnachllhjojlcaa", sum := "d90cfa0f662f381bffbe5e049bda4193fccd298916afeb8038963176e3ef8fe3", checked := Try.checked }
namespace Rows
def none {H : Type} : Left H := { results := [], args := [] }

/-- 'chandlerylaw20.WatchRow': WHATEVER THE INPUT: true; the input reads as it did. -/
def watchRowSpec : ChangeSpec := { name := "watchRow", fn := fun _ => fun
  | [d1, d2, d3] => { results := [.lit (.bool true)], args := [d1, d2, d3] }
  | _ => none }
def watchRowRow : OpenClaim := { program := "ytnachllhjojlcaa", sum := "d90cfa0f662f381bffbe5e049bda4193fccd298916afeb8038963176e3ef8fe3", func := "chandlery/chandlerylaw20.WatchRow", spec := "watchRow", unfollowed := true, recurses := true, apart := false }
def WatchRowSaid : Prop := watchRowRow.holds Try.pinned (OpenSpec.ofChange watchRowSpec)

/-- ITS FALSE NEIGHBOUR: 'it returns false'. Refute it at one input. -/
def watchRowWrong : ChangeSpec := { name := "watchRow", fn := fun _ => fun
  | [d1, d2, d3] => { results := [.lit (.bool false)], args := [d1, d2, d3] }
  | _ => none }
def WatchRowWrongFalsely : Prop := watchRowRow.holds Try.pinned (OpenSpec.ofChange watchRowWrong)

/-- 'chandlerylaw20.WatchPlays': WHATEVER THE INPUT: true; the input reads as it did. -/
def watchPlaysSpec : ChangeSpec := { name := "watchPlays", fn := fun _ => fun
  | [d1, d2] => { results := [.lit (.bool true)], args := [d1, d2] }
  | _ => none }
def watchPlaysRow : OpenClaim := { program := "ytnachllhjojlcaa", sum := "d90cfa0f662f381bffbe5e049bda4193fccd298916afeb8038963176e3ef8fe3", func := "chandlery/chandlerylaw20.WatchPlays", spec := "watchPlays", unfollowed := true, recurses := true, apart := false }
def WatchPlaysSaid : Prop := watchPlaysRow.holds Try.pinned (OpenSpec.ofChange watchPlaysSpec)

/-- ITS FALSE NEIGHBOUR: 'it returns false'. Refute it at one input. -/
def watchPlaysWrong : ChangeSpec := { name := "watchPlays", fn := fun _ => fun
  | [d1, d2] => { results := [.lit (.bool false)], args := [d1, d2] }
  | _ => none }
def WatchPlaysWrongFalsely : Prop := watchPlaysRow.holds Try.pinned (OpenSpec.ofChange watchPlaysWrong)

/-- 'chandlerylaw20.WatchCopies': WHATEVER THE INPUT: true; the input reads as it did. -/
def watchCopiesSpec : ChangeSpec := { name := "watchCopies", fn := fun _ => fun
  | [d1, d2, d3] => { results := [.lit (.bool true)], args := [d1, d2, d3] }
  | _ => none }
def watchCopiesRow : OpenClaim := { program := "ytnachllhjojlcaa", sum := "d90cfa0f662f381bffbe5e049bda4193fccd298916afeb8038963176e3ef8fe3", func := "chandlery/chandlerylaw20.WatchCopies", spec := "watchCopies", unfollowed := true, recurses := true, apart := false }
def WatchCopiesSaid : Prop := watchCopiesRow.holds Try.pinned (OpenSpec.ofChange watchCopiesSpec)

/-- ITS FALSE NEIGHBOUR: 'it returns false'. Refute it at one input. -/
def watchCopiesWrong : ChangeSpec := { name := "watchCopies", fn := fun _ => fun
  | [d1, d2, d3] => { results := [.lit (.bool false)], args := [d1, d2, d3] }
  | _ => none }
def WatchCopiesWrongFalsely : Prop := watchCopiesRow.holds Try.pinned (OpenSpec.ofChange watchCopiesWrong)

/-- 'chandlerylaw20.WatchNames': WHATEVER THE INPUT: true; the input reads as it did. -/
def watchNamesSpec : ChangeSpec := { name := "watchNames", fn := fun _ => fun
  | [] => { results := [.lit (.bool true)], args := [] }
  | _ => none }
def watchNamesRow : OpenClaim := { program := "ytnachllhjojlcaa", sum := "d90cfa0f662f381bffbe5e049bda4193fccd298916afeb8038963176e3ef8fe3", func := "chandlery/chandlerylaw20.WatchNames", spec := "watchNames", unfollowed := true, recurses := true, apart := false }
def WatchNamesSaid : Prop := watchNamesRow.holds Try.pinned (OpenSpec.ofChange watchNamesSpec)

/-- ITS FALSE NEIGHBOUR: 'it returns false'. Refute it at one input. -/
def watchNamesWrong : ChangeSpec := { name := "watchNames", fn := fun _ => fun
  | [] => { results := [.lit (.bool false)], args := [] }
  | _ => none }
def WatchNamesWrongFalsely : Prop := watchNamesRow.holds Try.pinned (OpenSpec.ofChange watchNamesWrong)

/-- 'chandlerylaw20.WatchUnit': WHATEVER THE INPUT: true; the input reads as it did. -/
def watchUnitSpec : ChangeSpec := { name := "watchUnit", fn := fun _ => fun
  | [d1, d2] => { results := [.lit (.bool true)], args := [d1, d2] }
  | _ => none }
def watchUnitRow : OpenClaim := { program := "ytnachllhjojlcaa", sum := "d90cfa0f662f381bffbe5e049bda4193fccd298916afeb8038963176e3ef8fe3", func := "chandlery/chandlerylaw20.WatchUnit", spec := "watchUnit", unfollowed := true, recurses := true, apart := false }
def WatchUnitSaid : Prop := watchUnitRow.holds Try.pinned (OpenSpec.ofChange watchUnitSpec)

/-- ITS FALSE NEIGHBOUR: 'it returns false'. Refute it at one input. -/
def watchUnitWrong : ChangeSpec := { name := "watchUnit", fn := fun _ => fun
  | [d1, d2] => { results := [.lit (.bool false)], args := [d1, d2] }
  | _ => none }
def WatchUnitWrongFalsely : Prop := watchUnitRow.holds Try.pinned (OpenSpec.ofChange watchUnitWrong)

/-- 'chandlerylaw20.WatchBack': WHATEVER THE INPUT: true; the input reads as it did. -/
def watchBackSpec : ChangeSpec := { name := "watchBack", fn := fun _ => fun
  | [d1, d2, d3, d4] => { results := [.lit (.bool true)], args := [d1, d2, d3, d4] }
  | _ => none }
def watchBackRow : OpenClaim := { program := "ytnachllhjojlcaa", sum := "d90cfa0f662f381bffbe5e049bda4193fccd298916afeb8038963176e3ef8fe3", func := "chandlery/chandlerylaw20.WatchBack", spec := "watchBack", unfollowed := true, recurses := true, apart := false }
def WatchBackSaid : Prop := watchBackRow.holds Try.pinned (OpenSpec.ofChange watchBackSpec)

/-- ITS FALSE NEIGHBOUR: 'it returns false'. Refute it at one input. -/
def watchBackWrong : ChangeSpec := { name := "watchBack", fn := fun _ => fun
  | [d1, d2, d3, d4] => { results := [.lit (.bool false)], args := [d1, d2, d3, d4] }
  | _ => none }
def WatchBackWrongFalsely : Prop := watchBackRow.holds Try.pinned (OpenSpec.ofChange watchBackWrong)

/- THE SECOND FORM. 'bulk': how many values and letters a reading holds, each counted each time it is reached (what is shared counts as often as it is met; a slice's spare places count too). A statement '..UptoSaid' is the law's where the arguments, and the package variables that the reading takes, are together of bulk at most 1048576: NARROWER than '..Said'. Prove '..Said' where nothing that the law and all that it calls make is longer than what came in: it says more and counts as full. Else prove '..UptoSaid'. A law counts once. -/
mutual
def uptoBulk {H : Type} : DataW H → Nat
  | .lit (.string bytes) => bytes.length + 1
  | .lit _ => 1
  | .nil => 1
  | .ptr d => uptoBulk d + 1
  | .slice elems spare => uptoBulkAll elems + uptoBulkAll spare + 1
  | .agg parts => uptoBulkAll parts + 1
  | .iface _ d => uptoBulk d + 1
  | .map entries => uptoBulkEntries entries + 1
  | .held _ => 1
def uptoBulkAll {H : Type} : List (DataW H) → Nat
  | [] => 0
  | d :: r => uptoBulk d + uptoBulkAll r
def uptoBulkEntries {H : Type} : List (Lit × DataW H) → Nat
  | [] => 0
  | x :: r => uptoBulkEntry x + uptoBulkEntries r
def uptoBulkEntry {H : Type} : Lit × DataW H → Nat
  | (.string bytes, d) => bytes.length + uptoBulk d + 1
  | (_, d) => uptoBulk d + 1
 end
def uptoSmall : (H : Type) → List (DataW H) → Bool := fun _ ds => decide (uptoBulkAll ds ≤ 1048576)
def OpenSpec.upto (s : _root_.Go.ChangeSpec) : _root_.Go.OpenSpec := { _root_.Go.OpenSpec.ofChange s with cond := some uptoSmall }

/-- 'chandlerylaw20.WatchRow', WHERE WHAT IT READS IS OF BULK AT MOST 1048576: true; the input reads as it did. -/
def watchRowUptoRow : OpenClaim := { program := "ytnachllhjojlcaa", sum := "d90cfa0f662f381bffbe5e049bda4193fccd298916afeb8038963176e3ef8fe3", func := "chandlery/chandlerylaw20.WatchRow", spec := "watchRow", unfollowed := true, recurses := true, apart := false, narrowed := true }
def WatchRowUptoSaid : Prop := watchRowUptoRow.holds Try.pinned (OpenSpec.upto watchRowSpec)

/-- 'chandlerylaw20.WatchPlays', WHERE WHAT IT READS IS OF BULK AT MOST 1048576: true; the input reads as it did. -/
def watchPlaysUptoRow : OpenClaim := { program := "ytnachllhjojlcaa", sum := "d90cfa0f662f381bffbe5e049bda4193fccd298916afeb8038963176e3ef8fe3", func := "chandlery/chandlerylaw20.WatchPlays", spec := "watchPlays", unfollowed := true, recurses := true, apart := false, narrowed := true }
def WatchPlaysUptoSaid : Prop := watchPlaysUptoRow.holds Try.pinned (OpenSpec.upto watchPlaysSpec)

/-- 'chandlerylaw20.WatchCopies', WHERE WHAT IT READS IS OF BULK AT MOST 1048576: true; the input reads as it did. -/
def watchCopiesUptoRow : OpenClaim := { program := "ytnachllhjojlcaa", sum := "d90cfa0f662f381bffbe5e049bda4193fccd298916afeb8038963176e3ef8fe3", func := "chandlery/chandlerylaw20.WatchCopies", spec := "watchCopies", unfollowed := true, recurses := true, apart := false, narrowed := true }
def WatchCopiesUptoSaid : Prop := watchCopiesUptoRow.holds Try.pinned (OpenSpec.upto watchCopiesSpec)

/-- 'chandlerylaw20.WatchNames', WHERE WHAT IT READS IS OF BULK AT MOST 1048576: true; the input reads as it did. -/
def watchNamesUptoRow : OpenClaim := { program := "ytnachllhjojlcaa", sum := "d90cfa0f662f381bffbe5e049bda4193fccd298916afeb8038963176e3ef8fe3", func := "chandlery/chandlerylaw20.WatchNames", spec := "watchNames", unfollowed := true, recurses := true, apart := false, narrowed := true }
def WatchNamesUptoSaid : Prop := watchNamesUptoRow.holds Try.pinned (OpenSpec.upto watchNamesSpec)

/-- 'chandlerylaw20.WatchUnit', WHERE WHAT IT READS IS OF BULK AT MOST 1048576: true; the input reads as it did. -/
def watchUnitUptoRow : OpenClaim := { program := "ytnachllhjojlcaa", sum := "d90cfa0f662f381bffbe5e049bda4193fccd298916afeb8038963176e3ef8fe3", func := "chandlery/chandlerylaw20.WatchUnit", spec := "watchUnit", unfollowed := true, recurses := true, apart := false, narrowed := true }
def WatchUnitUptoSaid : Prop := watchUnitUptoRow.holds Try.pinned (OpenSpec.upto watchUnitSpec)

/-- 'chandlerylaw20.WatchBack', WHERE WHAT IT READS IS OF BULK AT MOST 1048576: true; the input reads as it did. -/
def watchBackUptoRow : OpenClaim := { program := "ytnachllhjojlcaa", sum := "d90cfa0f662f381bffbe5e049bda4193fccd298916afeb8038963176e3ef8fe3", func := "chandlery/chandlerylaw20.WatchBack", spec := "watchBack", unfollowed := true, recurses := true, apart := false, narrowed := true }
def WatchBackUptoSaid : Prop := watchBackUptoRow.holds Try.pinned (OpenSpec.upto watchBackSpec)

end Rows
end Go.Proofs.Ytnachllhjojlcaa
