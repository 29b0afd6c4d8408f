/-
  No cell of these rows narrows 'for every input' (looked for: loops, veiled, ifaces, maps, wideKeys, modest, calm, conditions, laid).
  DERIVED. THE GIVEN ROWS OF THIS SEAT. 7 by the template 'for every input the law returns true; each argument reads behind the call as it read before'; 0 by the template 'total and deterministic' (their statements: YtoainmkebdpikaaTotals.lean).
  GIVEN WITH THE SEED: the statements are not yours to turn. If you find one false, say at which input.
  Laid BY PROGRAM, IN A SANDBOX (cutbox-rows.mjs): the forced cells as the released guide's own fill.sh prints them over the translation c419682028f939fe… (all of the seat's roots in one cut). By AI agents, Wed Nov 11 2026. No macro, syntax, notation, axiom, sorry.
-/
import Derived.Test.YtoainmkebdpikaaChecked
import GoSem.Claim
import GoSem.ClaimJoined
import GoSem.ClaimMapViews
import Derived.JoinedTies
import Derived.KernelRfl
namespace Go.Proofs.Ytoainmkebdpikaa
/- THE CELL 'sum', in the pinned program and in every row, IS THE sha256 OF THE DUMP (.gsa) THAT YtoainmkebdpikaaProg.lean LOADS. Nothing in Lean hashes anything: it is a label: what it is worth is what the hold of that sum in a sandbox is worth. -/
noncomputable def Try.pinned : Pinned := { name := "ytoainmkebdpikaa", sum := "c419682028f939fea4b1d77719b6231f5633388223e6fb44ba0cf857e804a6f9", checked := Try.checked }
namespace Rows
def none {H : Type} : Left H := { results := [], args := [] }

/-- 'chandlerylaw22.SatTells': WHATEVER THE INPUT: true; the input reads as it did. -/
def satTellsSpec : ChangeSpec := { name := "satTells", fn := fun _ => fun
  | [d1, d2, d3] => { results := [.lit (.bool true)], args := [d1, d2, d3] }
  | _ => none }
def satTellsRow : OpenClaim := { program := "ytoainmkebdpikaa", sum := "c419682028f939fea4b1d77719b6231f5633388223e6fb44ba0cf857e804a6f9", func := "chandlery/chandlerylaw22.SatTells", spec := "satTells", unfollowed := true, recurses := true, apart := false }
def SatTellsSaid : Prop := satTellsRow.holds Try.pinned (OpenSpec.ofChange satTellsSpec)

/-- ITS FALSE NEIGHBOUR: 'it returns false'. Refute it at one input. -/
def satTellsWrong : ChangeSpec := { name := "satTells", fn := fun _ => fun
  | [d1, d2, d3] => { results := [.lit (.bool false)], args := [d1, d2, d3] }
  | _ => none }
def SatTellsWrongFalsely : Prop := satTellsRow.holds Try.pinned (OpenSpec.ofChange satTellsWrong)

/-- 'chandlerylaw22.SatHolds': WHATEVER THE INPUT: true; the input reads as it did. -/
def satHoldsSpec : ChangeSpec := { name := "satHolds", fn := fun _ => fun
  | [d1, d2, d3] => { results := [.lit (.bool true)], args := [d1, d2, d3] }
  | _ => none }
def satHoldsRow : OpenClaim := { program := "ytoainmkebdpikaa", sum := "c419682028f939fea4b1d77719b6231f5633388223e6fb44ba0cf857e804a6f9", func := "chandlery/chandlerylaw22.SatHolds", spec := "satHolds", unfollowed := true, recurses := true, apart := false }
def SatHoldsSaid : Prop := satHoldsRow.holds Try.pinned (OpenSpec.ofChange satHoldsSpec)

/-- ITS FALSE NEIGHBOUR: 'it returns false'. Refute it at one input. -/
def satHoldsWrong : ChangeSpec := { name := "satHolds", fn := fun _ => fun
  | [d1, d2, d3] => { results := [.lit (.bool false)], args := [d1, d2, d3] }
  | _ => none }
def SatHoldsWrongFalsely : Prop := satHoldsRow.holds Try.pinned (OpenSpec.ofChange satHoldsWrong)

/-- 'chandlerylaw22.SatNames': WHATEVER THE INPUT: true; the input reads as it did. -/
def satNamesSpec : ChangeSpec := { name := "satNames", fn := fun _ => fun
  | [] => { results := [.lit (.bool true)], args := [] }
  | _ => none }
def satNamesRow : OpenClaim := { program := "ytoainmkebdpikaa", sum := "c419682028f939fea4b1d77719b6231f5633388223e6fb44ba0cf857e804a6f9", func := "chandlery/chandlerylaw22.SatNames", spec := "satNames", unfollowed := true, recurses := true, apart := false }
def SatNamesSaid : Prop := satNamesRow.holds Try.pinned (OpenSpec.ofChange satNamesSpec)

/-- ITS FALSE NEIGHBOUR: 'it returns false'. Refute it at one input. -/
def satNamesWrong : ChangeSpec := { name := "satNames", fn := fun _ => fun
  | [] => { results := [.lit (.bool false)], args := [] }
  | _ => none }
def SatNamesWrongFalsely : Prop := satNamesRow.holds Try.pinned (OpenSpec.ofChange satNamesWrong)

/-- 'chandlerylaw22.SatYes': WHATEVER THE INPUT: true; the input reads as it did. -/
def satYesSpec : ChangeSpec := { name := "satYes", fn := fun _ => fun
  | [d1, d2, d3] => { results := [.lit (.bool true)], args := [d1, d2, d3] }
  | _ => none }
def satYesRow : OpenClaim := { program := "ytoainmkebdpikaa", sum := "c419682028f939fea4b1d77719b6231f5633388223e6fb44ba0cf857e804a6f9", func := "chandlery/chandlerylaw22.SatYes", spec := "satYes", unfollowed := true, recurses := true, apart := false }
def SatYesSaid : Prop := satYesRow.holds Try.pinned (OpenSpec.ofChange satYesSpec)

/-- ITS FALSE NEIGHBOUR: 'it returns false'. Refute it at one input. -/
def satYesWrong : ChangeSpec := { name := "satYes", fn := fun _ => fun
  | [d1, d2, d3] => { results := [.lit (.bool false)], args := [d1, d2, d3] }
  | _ => none }
def SatYesWrongFalsely : Prop := satYesRow.holds Try.pinned (OpenSpec.ofChange satYesWrong)

/-- 'chandlerylaw22.SatBudget': WHATEVER THE INPUT: true; the input reads as it did. -/
def satBudgetSpec : ChangeSpec := { name := "satBudget", fn := fun _ => fun
  | [d1, d2] => { results := [.lit (.bool true)], args := [d1, d2] }
  | _ => none }
def satBudgetRow : OpenClaim := { program := "ytoainmkebdpikaa", sum := "c419682028f939fea4b1d77719b6231f5633388223e6fb44ba0cf857e804a6f9", func := "chandlery/chandlerylaw22.SatBudget", spec := "satBudget", unfollowed := true, recurses := true, apart := false }
def SatBudgetSaid : Prop := satBudgetRow.holds Try.pinned (OpenSpec.ofChange satBudgetSpec)

/-- ITS FALSE NEIGHBOUR: 'it returns false'. Refute it at one input. -/
def satBudgetWrong : ChangeSpec := { name := "satBudget", fn := fun _ => fun
  | [d1, d2] => { results := [.lit (.bool false)], args := [d1, d2] }
  | _ => none }
def SatBudgetWrongFalsely : Prop := satBudgetRow.holds Try.pinned (OpenSpec.ofChange satBudgetWrong)

/-- 'chandlerylaw22.SatBonds': WHATEVER THE INPUT: true; the input reads as it did. -/
def satBondsSpec : ChangeSpec := { name := "satBonds", fn := fun _ => fun
  | [d1, d2] => { results := [.lit (.bool true)], args := [d1, d2] }
  | _ => none }
def satBondsRow : OpenClaim := { program := "ytoainmkebdpikaa", sum := "c419682028f939fea4b1d77719b6231f5633388223e6fb44ba0cf857e804a6f9", func := "chandlery/chandlerylaw22.SatBonds", spec := "satBonds", unfollowed := true, recurses := true, apart := false }
def SatBondsSaid : Prop := satBondsRow.holds Try.pinned (OpenSpec.ofChange satBondsSpec)

/-- ITS FALSE NEIGHBOUR: 'it returns false'. Refute it at one input. -/
def satBondsWrong : ChangeSpec := { name := "satBonds", fn := fun _ => fun
  | [d1, d2] => { results := [.lit (.bool false)], args := [d1, d2] }
  | _ => none }
def SatBondsWrongFalsely : Prop := satBondsRow.holds Try.pinned (OpenSpec.ofChange satBondsWrong)

/-- 'chandlerylaw22.SatRow': WHATEVER THE INPUT: true; the input reads as it did. -/
def satRowSpec : ChangeSpec := { name := "satRow", fn := fun _ => fun
  | [d1, d2, d3] => { results := [.lit (.bool true)], args := [d1, d2, d3] }
  | _ => none }
def satRowRow : OpenClaim := { program := "ytoainmkebdpikaa", sum := "c419682028f939fea4b1d77719b6231f5633388223e6fb44ba0cf857e804a6f9", func := "chandlery/chandlerylaw22.SatRow", spec := "satRow", unfollowed := true, recurses := true, apart := false }
def SatRowSaid : Prop := satRowRow.holds Try.pinned (OpenSpec.ofChange satRowSpec)

/-- ITS FALSE NEIGHBOUR: 'it returns false'. Refute it at one input. -/
def satRowWrong : ChangeSpec := { name := "satRow", fn := fun _ => fun
  | [d1, d2, d3] => { results := [.lit (.bool false)], args := [d1, d2, d3] }
  | _ => none }
def SatRowWrongFalsely : Prop := satRowRow.holds Try.pinned (OpenSpec.ofChange satRowWrong)

/- THE SECOND FORM. 'bulk': how many values and letters a reading holds, each counted each time it is reached (what is shared counts as often as it is met; a slice's spare places count too). A statement '..UptoSaid' is the law's where the arguments, and the package variables that the reading takes, are together of bulk at most 1048576: NARROWER than '..Said'. Prove '..Said' where nothing that the law and all that it calls make is longer than what came in: it says more and counts as full. Else prove '..UptoSaid'. A law counts once. -/
mutual
def uptoBulk {H : Type} : DataW H → Nat
  | .lit (.string bytes) => bytes.length + 1
  | .lit _ => 1
  | .nil => 1
  | .ptr d => uptoBulk d + 1
  | .slice elems spare => uptoBulkAll elems + uptoBulkAll spare + 1
  | .agg parts => uptoBulkAll parts + 1
  | .iface _ d => uptoBulk d + 1
  | .map entries => uptoBulkEntries entries + 1
  | .held _ => 1
def uptoBulkAll {H : Type} : List (DataW H) → Nat
  | [] => 0
  | d :: r => uptoBulk d + uptoBulkAll r
def uptoBulkEntries {H : Type} : List (Lit × DataW H) → Nat
  | [] => 0
  | x :: r => uptoBulkEntry x + uptoBulkEntries r
def uptoBulkEntry {H : Type} : Lit × DataW H → Nat
  | (.string bytes, d) => bytes.length + uptoBulk d + 1
  | (_, d) => uptoBulk d + 1
 end
def uptoSmall : (H : Type) → List (DataW H) → Bool := fun _ ds => decide (uptoBulkAll ds ≤ 1048576)
def OpenSpec.upto (s : _root_.Go.ChangeSpec) : _root_.Go.OpenSpec := { _root_.Go.OpenSpec.ofChange s with cond := some uptoSmall }

/-- 'chandlerylaw22.SatTells', WHERE WHAT IT READS IS OF BULK AT MOST 1048576: true; the input reads as it did. -/
def satTellsUptoRow : OpenClaim := { program := "ytoainmkebdpikaa", sum := "c419682028f939fea4b1d77719b6231f5633388223e6fb44ba0cf857e804a6f9", func := "chandlery/chandlerylaw22.SatTells", spec := "satTells", unfollowed := true, recurses := true, apart := false, narrowed := true }
def SatTellsUptoSaid : Prop := satTellsUptoRow.holds Try.pinned (OpenSpec.upto satTellsSpec)

/-- 'chandlerylaw22.SatHolds', WHERE WHAT IT READS IS OF BULK AT MOST 1048576: true; the input reads as it did. -/
def satHoldsUptoRow : OpenClaim := { program := "ytoainmkebdpikaa", sum := "c419682028f939fea4b1d77719b6231f5633388223e6fb44ba0cf857e804a6f9", func := "chandlery/chandlerylaw22.SatHolds", spec := "satHolds", unfollowed := true, recurses := true, apart := false, narrowed := true }
def SatHoldsUptoSaid : Prop := satHoldsUptoRow.holds Try.pinned (OpenSpec.upto satHoldsSpec)

/-- 'chandlerylaw22.SatNames', WHERE WHAT IT READS IS OF BULK AT MOST 1048576: true; the input reads as it did. -/
def satNamesUptoRow : OpenClaim := { program := "ytoainmkebdpikaa", sum := "c419682028f939fea4b1d77719b6231f5633388223e6fb44ba0cf857e804a6f9", func := "chandlery/chandlerylaw22.SatNames", spec := "satNames", unfollowed := true, recurses := true, apart := false, narrowed := true }
def SatNamesUptoSaid : Prop := satNamesUptoRow.holds Try.pinned (OpenSpec.upto satNamesSpec)

/-- 'chandlerylaw22.SatYes', WHERE WHAT IT READS IS OF BULK AT MOST 1048576: true; the input reads as it did. -/
def satYesUptoRow : OpenClaim := { program := "ytoainmkebdpikaa", sum := "c419682028f939fea4b1d77719b6231f5633388223e6fb44ba0cf857e804a6f9", func := "chandlery/chandlerylaw22.SatYes", spec := "satYes", unfollowed := true, recurses := true, apart := false, narrowed := true }
def SatYesUptoSaid : Prop := satYesUptoRow.holds Try.pinned (OpenSpec.upto satYesSpec)

/-- 'chandlerylaw22.SatBudget', WHERE WHAT IT READS IS OF BULK AT MOST 1048576: true; the input reads as it did. -/
def satBudgetUptoRow : OpenClaim := { program := "ytoainmkebdpikaa", sum := "c419682028f939fea4b1d77719b6231f5633388223e6fb44ba0cf857e804a6f9", func := "chandlery/chandlerylaw22.SatBudget", spec := "satBudget", unfollowed := true, recurses := true, apart := false, narrowed := true }
def SatBudgetUptoSaid : Prop := satBudgetUptoRow.holds Try.pinned (OpenSpec.upto satBudgetSpec)

/-- 'chandlerylaw22.SatBonds', WHERE WHAT IT READS IS OF BULK AT MOST 1048576: true; the input reads as it did. -/
def satBondsUptoRow : OpenClaim := { program := "ytoainmkebdpikaa", sum := "c419682028f939fea4b1d77719b6231f5633388223e6fb44ba0cf857e804a6f9", func := "chandlery/chandlerylaw22.SatBonds", spec := "satBonds", unfollowed := true, recurses := true, apart := false, narrowed := true }
def SatBondsUptoSaid : Prop := satBondsUptoRow.holds Try.pinned (OpenSpec.upto satBondsSpec)

/-- 'chandlerylaw22.SatRow', WHERE WHAT IT READS IS OF BULK AT MOST 1048576: true; the input reads as it did. -/
def satRowUptoRow : OpenClaim := { program := "ytoainmkebdpikaa", sum := "c419682028f939fea4b1d77719b6231f5633388223e6fb44ba0cf857e804a6f9", func := "chandlery/chandlerylaw22.SatRow", spec := "satRow", unfollowed := true, recurses := true, apart := false, narrowed := true }
def SatRowUptoSaid : Prop := satRowUptoRow.holds Try.pinned (OpenSpec.upto satRowSpec)

end Rows
end Go.Proofs.Ytoainmkebdpikaa
