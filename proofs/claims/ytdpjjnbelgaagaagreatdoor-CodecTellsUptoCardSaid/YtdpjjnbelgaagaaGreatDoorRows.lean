/-
  NARROWER THAN 'FOR EVERY INPUT', by the rows' own cells (each row's printed sentence says how): CodecNames: laid · CodecBack: loops, laid · CodecBegun: loops, laid · CodecTells: loops, laid · CodecUnlike: loops, laid.
  DERIVED. THE GIVEN ROWS OF THIS SEAT. 5 by the template 'for every input the law returns true; each argument reads behind the call as it read before'; 0 by the template 'total and deterministic' (their statements: YtdpjjnbelgaagaaGreatDoorTotals.lean).
  GIVEN WITH THE SEED: the statements are not yours to turn. If you find one false, say at which input.
  Laid BY PROGRAM, IN A SANDBOX (cutbox-rows.mjs): the forced cells as the released guide's own fill.sh prints them over the translation 7701b6300a4018c0… (all of the seat's roots in one cut). By AI agents, Wed Nov 11 2026. No macro, syntax, notation, axiom, sorry.
-/
import Derived.Test.YtdpjjnbelgaagaaGreatDoorChecked
import GoSem.Claim
import GoSem.ClaimJoined
import GoSem.ClaimMapViews
import Derived.JoinedTies
import Derived.KernelRfl
namespace Go.Proofs.YtdpjjnbelgaagaaGreatDoor
/- THE CELL 'sum', in the pinned program and in every row, IS THE sha256 OF THE DUMP (.gsa) THAT YtdpjjnbelgaagaaGreatDoorProg.lean LOADS. Nothing in Lean hashes anything: it is a label: what it is worth is what the hold of that sum in a sandbox is worth. -/
noncomputable def Tryz.pinned : Pinned := { name := "ytdpjjnbelgaagaagreatdoor", sum := "7701b6300a4018c0978c5b1634dcf8be2fc8f425f9535d3a30f5b8c607d4891b", checked := Tryz.checked }
namespace Rows
def none {H : Type} : Left H := { results := [], args := [] }

/- WHAT THE LISTED PACKAGE-LEVEL VARIABLES READ AS WHEN THE CALL BEGINS. Each datum BY PROGRAM (the guide's laid-datum.mjs) off the statement by which the dump's own 'gosem.cut.vars' lays the variable. In a bare row this is a premise. The card (YtdpjjnbelgaagaaGreatDoorCards.lean) ties it to the program's text. -/
def laid_chandlery_span_ops {H : Type} : DataW H := .map [(.string [], .lit (.int .u8 0)), (.string [60], .lit (.int .u8 1)), (.string [60, 61], .lit (.int .u8 3)), (.string [61], .lit (.int .u8 2)), (.string [62], .lit (.int .u8 4)), (.string [62, 61], .lit (.int .u8 6))]
def laid_chandlery_dep_words {H : Type} : DataW H := .agg [.lit (.string [97, 110, 100]), .lit (.string [111, 114]), .lit (.string [105, 102]), .lit (.string [101, 108, 115, 101]), .lit (.string [117, 110, 108, 101, 115, 115]), .lit (.string [119, 105, 116, 104]), .lit (.string [119, 105, 116, 104, 111, 117, 116])]

/-- 'chandlerylaw11.CodecNames': WHATEVER THE INPUT: true; the input reads as it did. -/
def codecNamesSpec : ChangeSpec := { name := "codecNames", fn := fun _ => fun
  | [] => { results := [.lit (.bool true)], args := [] }
  | _ => none }
def codecNamesRow : OpenClaim := { program := "ytdpjjnbelgaagaagreatdoor", sum := "7701b6300a4018c0978c5b1634dcf8be2fc8f425f9535d3a30f5b8c607d4891b", func := "chandlery/chandlerylaw11.CodecNames", spec := "codecNames", inPlace := ["internal/bytealg.IndexByteString"], unfollowed := true, recurses := true, named := ["chandlery/dep.words", "chandlery/span.ops"], apart := false, laid := [("chandlery/span.ops", laid_chandlery_span_ops), ("chandlery/dep.words", laid_chandlery_dep_words)] }
def CodecNamesSaid : Prop := codecNamesRow.holds Tryz.pinned (OpenSpec.ofChange codecNamesSpec)

/-- ITS FALSE NEIGHBOUR: 'it returns false'. Refute it at one input. -/
def codecNamesWrong : ChangeSpec := { name := "codecNames", fn := fun _ => fun
  | [] => { results := [.lit (.bool false)], args := [] }
  | _ => none }
def CodecNamesWrongFalsely : Prop := codecNamesRow.holds Tryz.pinned (OpenSpec.ofChange codecNamesWrong)

/-- 'chandlerylaw11.CodecBack': WHATEVER THE INPUT: true; the input reads as it did. -/
def codecBackSpec : ChangeSpec := { name := "codecBack", fn := fun _ => fun
  | [d1, d2] => { results := [.lit (.bool true)], args := [d1, d2] }
  | _ => none }
def codecBackRow : OpenClaim := { program := "ytdpjjnbelgaagaagreatdoor", sum := "7701b6300a4018c0978c5b1634dcf8be2fc8f425f9535d3a30f5b8c607d4891b", func := "chandlery/chandlerylaw11.CodecBack", spec := "codecBack", inPlace := ["internal/bytealg.IndexByteString"], unfollowed := true, recurses := true, named := ["chandlery/dep.words", "chandlery/span.ops"], loops := true, apart := false, laid := [("chandlery/span.ops", laid_chandlery_span_ops), ("chandlery/dep.words", laid_chandlery_dep_words)] }
def CodecBackSaid : Prop := codecBackRow.holds Tryz.pinned (OpenSpec.ofChange codecBackSpec)

/-- ITS FALSE NEIGHBOUR: 'it returns false'. Refute it at one input. -/
def codecBackWrong : ChangeSpec := { name := "codecBack", fn := fun _ => fun
  | [d1, d2] => { results := [.lit (.bool false)], args := [d1, d2] }
  | _ => none }
def CodecBackWrongFalsely : Prop := codecBackRow.holds Tryz.pinned (OpenSpec.ofChange codecBackWrong)

/-- 'chandlerylaw11.CodecBegun': WHATEVER THE INPUT: true; the input reads as it did. -/
def codecBegunSpec : ChangeSpec := { name := "codecBegun", fn := fun _ => fun
  | [d1, d2, d3] => { results := [.lit (.bool true)], args := [d1, d2, d3] }
  | _ => none }
def codecBegunRow : OpenClaim := { program := "ytdpjjnbelgaagaagreatdoor", sum := "7701b6300a4018c0978c5b1634dcf8be2fc8f425f9535d3a30f5b8c607d4891b", func := "chandlery/chandlerylaw11.CodecBegun", spec := "codecBegun", inPlace := ["internal/bytealg.IndexByteString"], unfollowed := true, recurses := true, named := ["chandlery/dep.words", "chandlery/span.ops"], loops := true, apart := false, laid := [("chandlery/span.ops", laid_chandlery_span_ops), ("chandlery/dep.words", laid_chandlery_dep_words)] }
def CodecBegunSaid : Prop := codecBegunRow.holds Tryz.pinned (OpenSpec.ofChange codecBegunSpec)

/-- ITS FALSE NEIGHBOUR: 'it returns false'. Refute it at one input. -/
def codecBegunWrong : ChangeSpec := { name := "codecBegun", fn := fun _ => fun
  | [d1, d2, d3] => { results := [.lit (.bool false)], args := [d1, d2, d3] }
  | _ => none }
def CodecBegunWrongFalsely : Prop := codecBegunRow.holds Tryz.pinned (OpenSpec.ofChange codecBegunWrong)

/-- 'chandlerylaw11.CodecTells': WHATEVER THE INPUT: true; the input reads as it did. -/
def codecTellsSpec : ChangeSpec := { name := "codecTells", fn := fun _ => fun
  | [d1, d2, d3] => { results := [.lit (.bool true)], args := [d1, d2, d3] }
  | _ => none }
def codecTellsRow : OpenClaim := { program := "ytdpjjnbelgaagaagreatdoor", sum := "7701b6300a4018c0978c5b1634dcf8be2fc8f425f9535d3a30f5b8c607d4891b", func := "chandlery/chandlerylaw11.CodecTells", spec := "codecTells", inPlace := ["internal/bytealg.IndexByteString"], unfollowed := true, recurses := true, named := ["chandlery/dep.words", "chandlery/span.ops"], loops := true, apart := false, laid := [("chandlery/span.ops", laid_chandlery_span_ops), ("chandlery/dep.words", laid_chandlery_dep_words)] }
def CodecTellsSaid : Prop := codecTellsRow.holds Tryz.pinned (OpenSpec.ofChange codecTellsSpec)

/-- ITS FALSE NEIGHBOUR: 'it returns false'. Refute it at one input. -/
def codecTellsWrong : ChangeSpec := { name := "codecTells", fn := fun _ => fun
  | [d1, d2, d3] => { results := [.lit (.bool false)], args := [d1, d2, d3] }
  | _ => none }
def CodecTellsWrongFalsely : Prop := codecTellsRow.holds Tryz.pinned (OpenSpec.ofChange codecTellsWrong)

/-- 'chandlerylaw11.CodecUnlike': WHATEVER THE INPUT: true; the input reads as it did. -/
def codecUnlikeSpec : ChangeSpec := { name := "codecUnlike", fn := fun _ => fun
  | [d1, d2] => { results := [.lit (.bool true)], args := [d1, d2] }
  | _ => none }
def codecUnlikeRow : OpenClaim := { program := "ytdpjjnbelgaagaagreatdoor", sum := "7701b6300a4018c0978c5b1634dcf8be2fc8f425f9535d3a30f5b8c607d4891b", func := "chandlery/chandlerylaw11.CodecUnlike", spec := "codecUnlike", inPlace := ["internal/bytealg.IndexByteString"], unfollowed := true, recurses := true, named := ["chandlery/dep.words", "chandlery/span.ops"], loops := true, apart := false, laid := [("chandlery/span.ops", laid_chandlery_span_ops), ("chandlery/dep.words", laid_chandlery_dep_words)] }
def CodecUnlikeSaid : Prop := codecUnlikeRow.holds Tryz.pinned (OpenSpec.ofChange codecUnlikeSpec)

/-- ITS FALSE NEIGHBOUR: 'it returns false'. Refute it at one input. -/
def codecUnlikeWrong : ChangeSpec := { name := "codecUnlike", fn := fun _ => fun
  | [d1, d2] => { results := [.lit (.bool false)], args := [d1, d2] }
  | _ => none }
def CodecUnlikeWrongFalsely : Prop := codecUnlikeRow.holds Tryz.pinned (OpenSpec.ofChange codecUnlikeWrong)

/- THE SECOND FORM. 'bulk': how many values and letters a reading holds, each counted each time it is reached (what is shared counts as often as it is met; a slice's spare places count too). A statement '..UptoSaid' is the law's where the arguments, and the package variables that the reading takes, are together of bulk at most 1048576: NARROWER than '..Said'. Prove '..Said' where nothing that the law and all that it calls make is longer than what came in: it says more and counts as full. Else prove '..UptoSaid'. A law counts once. -/
mutual
def uptoBulk {H : Type} : DataW H → Nat
  | .lit (.string bytes) => bytes.length + 1
  | .lit _ => 1
  | .nil => 1
  | .ptr d => uptoBulk d + 1
  | .slice elems spare => uptoBulkAll elems + uptoBulkAll spare + 1
  | .agg parts => uptoBulkAll parts + 1
  | .iface _ d => uptoBulk d + 1
  | .map entries => uptoBulkEntries entries + 1
  | .held _ => 1
def uptoBulkAll {H : Type} : List (DataW H) → Nat
  | [] => 0
  | d :: r => uptoBulk d + uptoBulkAll r
def uptoBulkEntries {H : Type} : List (Lit × DataW H) → Nat
  | [] => 0
  | x :: r => uptoBulkEntry x + uptoBulkEntries r
def uptoBulkEntry {H : Type} : Lit × DataW H → Nat
  | (.string bytes, d) => bytes.length + uptoBulk d + 1
  | (_, d) => uptoBulk d + 1
 end
def uptoSmall : (H : Type) → List (DataW H) → Bool := fun _ ds => decide (uptoBulkAll ds ≤ 1048576)
def OpenSpec.upto (s : _root_.Go.ChangeSpec) : _root_.Go.OpenSpec := { _root_.Go.OpenSpec.ofChange s with cond := some uptoSmall }

/-- 'chandlerylaw11.CodecNames', WHERE WHAT IT READS IS OF BULK AT MOST 1048576: true; the input reads as it did. -/
def codecNamesUptoRow : OpenClaim := { program := "ytdpjjnbelgaagaagreatdoor", sum := "7701b6300a4018c0978c5b1634dcf8be2fc8f425f9535d3a30f5b8c607d4891b", func := "chandlery/chandlerylaw11.CodecNames", spec := "codecNames", inPlace := ["internal/bytealg.IndexByteString"], unfollowed := true, recurses := true, named := ["chandlery/dep.words", "chandlery/span.ops"], apart := false, laid := [("chandlery/span.ops", laid_chandlery_span_ops), ("chandlery/dep.words", laid_chandlery_dep_words)], narrowed := true }
def CodecNamesUptoSaid : Prop := codecNamesUptoRow.holds Tryz.pinned (OpenSpec.upto codecNamesSpec)

/-- 'chandlerylaw11.CodecBack', WHERE WHAT IT READS IS OF BULK AT MOST 1048576: true; the input reads as it did. -/
def codecBackUptoRow : OpenClaim := { program := "ytdpjjnbelgaagaagreatdoor", sum := "7701b6300a4018c0978c5b1634dcf8be2fc8f425f9535d3a30f5b8c607d4891b", func := "chandlery/chandlerylaw11.CodecBack", spec := "codecBack", inPlace := ["internal/bytealg.IndexByteString"], unfollowed := true, recurses := true, named := ["chandlery/dep.words", "chandlery/span.ops"], loops := true, apart := false, laid := [("chandlery/span.ops", laid_chandlery_span_ops), ("chandlery/dep.words", laid_chandlery_dep_words)], narrowed := true }
def CodecBackUptoSaid : Prop := codecBackUptoRow.holds Tryz.pinned (OpenSpec.upto codecBackSpec)

/-- 'chandlerylaw11.CodecBegun', WHERE WHAT IT READS IS OF BULK AT MOST 1048576: true; the input reads as it did. -/
def codecBegunUptoRow : OpenClaim := { program := "ytdpjjnbelgaagaagreatdoor", sum := "7701b6300a4018c0978c5b1634dcf8be2fc8f425f9535d3a30f5b8c607d4891b", func := "chandlery/chandlerylaw11.CodecBegun", spec := "codecBegun", inPlace := ["internal/bytealg.IndexByteString"], unfollowed := true, recurses := true, named := ["chandlery/dep.words", "chandlery/span.ops"], loops := true, apart := false, laid := [("chandlery/span.ops", laid_chandlery_span_ops), ("chandlery/dep.words", laid_chandlery_dep_words)], narrowed := true }
def CodecBegunUptoSaid : Prop := codecBegunUptoRow.holds Tryz.pinned (OpenSpec.upto codecBegunSpec)

/-- 'chandlerylaw11.CodecTells', WHERE WHAT IT READS IS OF BULK AT MOST 1048576: true; the input reads as it did. -/
def codecTellsUptoRow : OpenClaim := { program := "ytdpjjnbelgaagaagreatdoor", sum := "7701b6300a4018c0978c5b1634dcf8be2fc8f425f9535d3a30f5b8c607d4891b", func := "chandlery/chandlerylaw11.CodecTells", spec := "codecTells", inPlace := ["internal/bytealg.IndexByteString"], unfollowed := true, recurses := true, named := ["chandlery/dep.words", "chandlery/span.ops"], loops := true, apart := false, laid := [("chandlery/span.ops", laid_chandlery_span_ops), ("chandlery/dep.words", laid_chandlery_dep_words)], narrowed := true }
def CodecTellsUptoSaid : Prop := codecTellsUptoRow.holds Tryz.pinned (OpenSpec.upto codecTellsSpec)

/-- 'chandlerylaw11.CodecUnlike', WHERE WHAT IT READS IS OF BULK AT MOST 1048576: true; the input reads as it did. -/
def codecUnlikeUptoRow : OpenClaim := { program := "ytdpjjnbelgaagaagreatdoor", sum := "7701b6300a4018c0978c5b1634dcf8be2fc8f425f9535d3a30f5b8c607d4891b", func := "chandlery/chandlerylaw11.CodecUnlike", spec := "codecUnlike", inPlace := ["internal/bytealg.IndexByteString"], unfollowed := true, recurses := true, named := ["chandlery/dep.words", "chandlery/span.ops"], loops := true, apart := false, laid := [("chandlery/span.ops", laid_chandlery_span_ops), ("chandlery/dep.words", laid_chandlery_dep_words)], narrowed := true }
def CodecUnlikeUptoSaid : Prop := codecUnlikeUptoRow.holds Tryz.pinned (OpenSpec.upto codecUnlikeSpec)

end Rows
end Go.Proofs.YtdpjjnbelgaagaaGreatDoor
