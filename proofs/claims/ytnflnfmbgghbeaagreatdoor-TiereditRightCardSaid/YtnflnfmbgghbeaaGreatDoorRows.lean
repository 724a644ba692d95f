/-
  NARROWER THAN 'FOR EVERY INPUT', by the rows' own cells (each row's printed sentence says how): TiereditDrops: laid · TiereditCuts: laid · TiereditSubtree: laid · TiereditWrites: laid · TiereditOne: laid · TiereditAdds: laid · TiereditUndone: laid · TiereditGlues: laid · TiereditWhole: laid · TiereditRight: laid.
  DERIVED. THE GIVEN ROWS OF THIS SEAT. 10 by the template 'for every input the law returns true; each argument reads behind the call as it read before'; 0 by the template 'total and deterministic' (their statements: YtnflnfmbgghbeaaGreatDoorTotals.lean).
  GIVEN WITH THE SEED: the statements are not yours to turn. If you find one false, say at which input.
  Laid BY PROGRAM, IN A SANDBOX (cutbox-rows.mjs): the forced cells as the released guide's own fill.sh prints them over the translation de3b4ee43a6bff34… (all of the seat's roots in one cut). By AI agents, Wed Nov 11 2026. No macro, syntax, notation, axiom, sorry.
-/
import Derived.Test.YtnflnfmbgghbeaaGreatDoorChecked
import GoSem.PinnedTables
import GoSem.Claim
import GoSem.ClaimJoined
import GoSem.ClaimMapViews
import Derived.JoinedTies
import Derived.KernelRfl
namespace Go.Proofs.YtnflnfmbgghbeaaGreatDoor
/- THE CELL 'sum', in the pinned program and in every row, IS THE sha256 OF THE DUMP (.gsa) THAT YtnflnfmbgghbeaaGreatDoorProg.lean LOADS. Nothing in Lean hashes anything: it is a label: what it is worth is what the hold of that sum in a sandbox is worth. -/
noncomputable def Tryz.pinned : Pinned := { name := "ytnflnfmbgghbeaagreatdoor", sum := "de3b4ee43a6bff347c817eee38b41ab761dfd5fe3f59dc227964442d5e64080b", checked := Tryz.checked }
namespace Rows
def none {H : Type} : Left H := { results := [], args := [] }

/- WHAT THE LISTED PACKAGE-LEVEL VARIABLES READ AS WHEN THE CALL BEGINS. Each datum BY PROGRAM (the guide's laid-datum.mjs) off the statement by which the dump's own 'gosem.cut.vars' lays the variable. In a bare row this is a premise. The card (YtnflnfmbgghbeaaGreatDoorCards.lean) ties it to the program's text. -/
def laid_unicode_utf8_acceptRanges {H : Type} : DataW H := .agg [.agg [.lit (.int .u8 128), .lit (.int .u8 191)], .agg [.lit (.int .u8 160), .lit (.int .u8 191)], .agg [.lit (.int .u8 128), .lit (.int .u8 159)], .agg [.lit (.int .u8 144), .lit (.int .u8 191)], .agg [.lit (.int .u8 128), .lit (.int .u8 143)], .agg [.lit (.int .u8 0), .lit (.int .u8 0)], .agg [.lit (.int .u8 0), .lit (.int .u8 0)], .agg [.lit (.int .u8 0), .lit (.int .u8 0)], .agg [.lit (.int .u8 0), .lit (.int .u8 0)], .agg [.lit (.int .u8 0), .lit (.int .u8 0)], .agg [.lit (.int .u8 0), .lit (.int .u8 0)], .agg [.lit (.int .u8 0), .lit (.int .u8 0)], .agg [.lit (.int .u8 0), .lit (.int .u8 0)], .agg [.lit (.int .u8 0), .lit (.int .u8 0)], .agg [.lit (.int .u8 0), .lit (.int .u8 0)], .agg [.lit (.int .u8 0), .lit (.int .u8 0)]]
/-- One of Go's own tables, pinned by name: the form's constant. -/
def laid_unicode_utf8_first : DataW Unit := Go.Pinned.utf8First

/-- 'langdoclaw13.TiereditDrops': WHATEVER THE INPUT: true; the input reads as it did. -/
def tiereditDropsSpec : ChangeSpec := { name := "tiereditDrops", fn := fun _ => fun
  | [d1, d2] => { results := [.lit (.bool true)], args := [d1, d2] }
  | _ => none }
def tiereditDropsRow : OpenClaim := { program := "ytnflnfmbgghbeaagreatdoor", sum := "de3b4ee43a6bff347c817eee38b41ab761dfd5fe3f59dc227964442d5e64080b", func := "langdoc/langdoclaw13.TiereditDrops", spec := "tiereditDrops", inPlace := ["slices.overlaps[langdoc/api.Note]"], unfollowed := true, recurses := true, named := ["unicode/utf8.first", "unicode/utf8.acceptRanges"], apart := false, laid := [("unicode/utf8.acceptRanges", laid_unicode_utf8_acceptRanges), ("unicode/utf8.first", laid_unicode_utf8_first)] }
def TiereditDropsSaid : Prop := tiereditDropsRow.holds Tryz.pinned (OpenSpec.ofChange tiereditDropsSpec)

/-- ITS FALSE NEIGHBOUR: 'it returns false'. Refute it at one input. -/
def tiereditDropsWrong : ChangeSpec := { name := "tiereditDrops", fn := fun _ => fun
  | [d1, d2] => { results := [.lit (.bool false)], args := [d1, d2] }
  | _ => none }
def TiereditDropsWrongFalsely : Prop := tiereditDropsRow.holds Tryz.pinned (OpenSpec.ofChange tiereditDropsWrong)

/-- 'langdoclaw13.TiereditCuts': WHATEVER THE INPUT: true; the input reads as it did. -/
def tiereditCutsSpec : ChangeSpec := { name := "tiereditCuts", fn := fun _ => fun
  | [d1, d2] => { results := [.lit (.bool true)], args := [d1, d2] }
  | _ => none }
def tiereditCutsRow : OpenClaim := { program := "ytnflnfmbgghbeaagreatdoor", sum := "de3b4ee43a6bff347c817eee38b41ab761dfd5fe3f59dc227964442d5e64080b", func := "langdoc/langdoclaw13.TiereditCuts", spec := "tiereditCuts", inPlace := ["slices.overlaps[langdoc/api.Note]"], unfollowed := true, recurses := true, named := ["unicode/utf8.first", "unicode/utf8.acceptRanges"], apart := false, laid := [("unicode/utf8.acceptRanges", laid_unicode_utf8_acceptRanges), ("unicode/utf8.first", laid_unicode_utf8_first)] }
def TiereditCutsSaid : Prop := tiereditCutsRow.holds Tryz.pinned (OpenSpec.ofChange tiereditCutsSpec)

/-- ITS FALSE NEIGHBOUR: 'it returns false'. Refute it at one input. -/
def tiereditCutsWrong : ChangeSpec := { name := "tiereditCuts", fn := fun _ => fun
  | [d1, d2] => { results := [.lit (.bool false)], args := [d1, d2] }
  | _ => none }
def TiereditCutsWrongFalsely : Prop := tiereditCutsRow.holds Tryz.pinned (OpenSpec.ofChange tiereditCutsWrong)

/-- 'langdoclaw13.TiereditSubtree': WHATEVER THE INPUT: true; the input reads as it did. -/
def tiereditSubtreeSpec : ChangeSpec := { name := "tiereditSubtree", fn := fun _ => fun
  | [d1, d2] => { results := [.lit (.bool true)], args := [d1, d2] }
  | _ => none }
def tiereditSubtreeRow : OpenClaim := { program := "ytnflnfmbgghbeaagreatdoor", sum := "de3b4ee43a6bff347c817eee38b41ab761dfd5fe3f59dc227964442d5e64080b", func := "langdoc/langdoclaw13.TiereditSubtree", spec := "tiereditSubtree", inPlace := ["slices.overlaps[langdoc/api.Note]"], unfollowed := true, recurses := true, named := ["unicode/utf8.first", "unicode/utf8.acceptRanges"], apart := false, laid := [("unicode/utf8.acceptRanges", laid_unicode_utf8_acceptRanges), ("unicode/utf8.first", laid_unicode_utf8_first)] }
def TiereditSubtreeSaid : Prop := tiereditSubtreeRow.holds Tryz.pinned (OpenSpec.ofChange tiereditSubtreeSpec)

/-- ITS FALSE NEIGHBOUR: 'it returns false'. Refute it at one input. -/
def tiereditSubtreeWrong : ChangeSpec := { name := "tiereditSubtree", fn := fun _ => fun
  | [d1, d2] => { results := [.lit (.bool false)], args := [d1, d2] }
  | _ => none }
def TiereditSubtreeWrongFalsely : Prop := tiereditSubtreeRow.holds Tryz.pinned (OpenSpec.ofChange tiereditSubtreeWrong)

/-- 'langdoclaw13.TiereditWrites': WHATEVER THE INPUT: true; the input reads as it did. -/
def tiereditWritesSpec : ChangeSpec := { name := "tiereditWrites", fn := fun _ => fun
  | [d1, d2] => { results := [.lit (.bool true)], args := [d1, d2] }
  | _ => none }
def tiereditWritesRow : OpenClaim := { program := "ytnflnfmbgghbeaagreatdoor", sum := "de3b4ee43a6bff347c817eee38b41ab761dfd5fe3f59dc227964442d5e64080b", func := "langdoc/langdoclaw13.TiereditWrites", spec := "tiereditWrites", inPlace := ["slices.overlaps[langdoc/api.Note]"], unfollowed := true, recurses := true, named := ["unicode/utf8.first", "unicode/utf8.acceptRanges"], apart := false, laid := [("unicode/utf8.acceptRanges", laid_unicode_utf8_acceptRanges), ("unicode/utf8.first", laid_unicode_utf8_first)] }
def TiereditWritesSaid : Prop := tiereditWritesRow.holds Tryz.pinned (OpenSpec.ofChange tiereditWritesSpec)

/-- ITS FALSE NEIGHBOUR: 'it returns false'. Refute it at one input. -/
def tiereditWritesWrong : ChangeSpec := { name := "tiereditWrites", fn := fun _ => fun
  | [d1, d2] => { results := [.lit (.bool false)], args := [d1, d2] }
  | _ => none }
def TiereditWritesWrongFalsely : Prop := tiereditWritesRow.holds Tryz.pinned (OpenSpec.ofChange tiereditWritesWrong)

/-- 'langdoclaw13.TiereditOne': WHATEVER THE INPUT: true; the input reads as it did. -/
def tiereditOneSpec : ChangeSpec := { name := "tiereditOne", fn := fun _ => fun
  | [d1, d2] => { results := [.lit (.bool true)], args := [d1, d2] }
  | _ => none }
def tiereditOneRow : OpenClaim := { program := "ytnflnfmbgghbeaagreatdoor", sum := "de3b4ee43a6bff347c817eee38b41ab761dfd5fe3f59dc227964442d5e64080b", func := "langdoc/langdoclaw13.TiereditOne", spec := "tiereditOne", inPlace := ["slices.overlaps[langdoc/api.Note]"], unfollowed := true, recurses := true, named := ["unicode/utf8.first", "unicode/utf8.acceptRanges"], apart := false, laid := [("unicode/utf8.acceptRanges", laid_unicode_utf8_acceptRanges), ("unicode/utf8.first", laid_unicode_utf8_first)] }
def TiereditOneSaid : Prop := tiereditOneRow.holds Tryz.pinned (OpenSpec.ofChange tiereditOneSpec)

/-- ITS FALSE NEIGHBOUR: 'it returns false'. Refute it at one input. -/
def tiereditOneWrong : ChangeSpec := { name := "tiereditOne", fn := fun _ => fun
  | [d1, d2] => { results := [.lit (.bool false)], args := [d1, d2] }
  | _ => none }
def TiereditOneWrongFalsely : Prop := tiereditOneRow.holds Tryz.pinned (OpenSpec.ofChange tiereditOneWrong)

/-- 'langdoclaw13.TiereditAdds': WHATEVER THE INPUT: true; the input reads as it did. -/
def tiereditAddsSpec : ChangeSpec := { name := "tiereditAdds", fn := fun _ => fun
  | [d1, d2] => { results := [.lit (.bool true)], args := [d1, d2] }
  | _ => none }
def tiereditAddsRow : OpenClaim := { program := "ytnflnfmbgghbeaagreatdoor", sum := "de3b4ee43a6bff347c817eee38b41ab761dfd5fe3f59dc227964442d5e64080b", func := "langdoc/langdoclaw13.TiereditAdds", spec := "tiereditAdds", inPlace := ["slices.overlaps[langdoc/api.Note]"], unfollowed := true, recurses := true, named := ["unicode/utf8.first", "unicode/utf8.acceptRanges"], apart := false, laid := [("unicode/utf8.acceptRanges", laid_unicode_utf8_acceptRanges), ("unicode/utf8.first", laid_unicode_utf8_first)] }
def TiereditAddsSaid : Prop := tiereditAddsRow.holds Tryz.pinned (OpenSpec.ofChange tiereditAddsSpec)

/-- ITS FALSE NEIGHBOUR: 'it returns false'. Refute it at one input. -/
def tiereditAddsWrong : ChangeSpec := { name := "tiereditAdds", fn := fun _ => fun
  | [d1, d2] => { results := [.lit (.bool false)], args := [d1, d2] }
  | _ => none }
def TiereditAddsWrongFalsely : Prop := tiereditAddsRow.holds Tryz.pinned (OpenSpec.ofChange tiereditAddsWrong)

/-- 'langdoclaw13.TiereditUndone': WHATEVER THE INPUT: true; the input reads as it did. -/
def tiereditUndoneSpec : ChangeSpec := { name := "tiereditUndone", fn := fun _ => fun
  | [d1, d2] => { results := [.lit (.bool true)], args := [d1, d2] }
  | _ => none }
def tiereditUndoneRow : OpenClaim := { program := "ytnflnfmbgghbeaagreatdoor", sum := "de3b4ee43a6bff347c817eee38b41ab761dfd5fe3f59dc227964442d5e64080b", func := "langdoc/langdoclaw13.TiereditUndone", spec := "tiereditUndone", inPlace := ["slices.overlaps[langdoc/api.Note]"], unfollowed := true, recurses := true, named := ["unicode/utf8.first", "unicode/utf8.acceptRanges"], apart := false, laid := [("unicode/utf8.acceptRanges", laid_unicode_utf8_acceptRanges), ("unicode/utf8.first", laid_unicode_utf8_first)] }
def TiereditUndoneSaid : Prop := tiereditUndoneRow.holds Tryz.pinned (OpenSpec.ofChange tiereditUndoneSpec)

/-- ITS FALSE NEIGHBOUR: 'it returns false'. Refute it at one input. -/
def tiereditUndoneWrong : ChangeSpec := { name := "tiereditUndone", fn := fun _ => fun
  | [d1, d2] => { results := [.lit (.bool false)], args := [d1, d2] }
  | _ => none }
def TiereditUndoneWrongFalsely : Prop := tiereditUndoneRow.holds Tryz.pinned (OpenSpec.ofChange tiereditUndoneWrong)

/-- 'langdoclaw13.TiereditGlues': WHATEVER THE INPUT: true; the input reads as it did. -/
def tiereditGluesSpec : ChangeSpec := { name := "tiereditGlues", fn := fun _ => fun
  | [d1, d2, d3] => { results := [.lit (.bool true)], args := [d1, d2, d3] }
  | _ => none }
def tiereditGluesRow : OpenClaim := { program := "ytnflnfmbgghbeaagreatdoor", sum := "de3b4ee43a6bff347c817eee38b41ab761dfd5fe3f59dc227964442d5e64080b", func := "langdoc/langdoclaw13.TiereditGlues", spec := "tiereditGlues", inPlace := ["slices.overlaps[langdoc/api.Note]"], unfollowed := true, recurses := true, named := ["unicode/utf8.first", "unicode/utf8.acceptRanges"], apart := false, laid := [("unicode/utf8.acceptRanges", laid_unicode_utf8_acceptRanges), ("unicode/utf8.first", laid_unicode_utf8_first)] }
def TiereditGluesSaid : Prop := tiereditGluesRow.holds Tryz.pinned (OpenSpec.ofChange tiereditGluesSpec)

/-- ITS FALSE NEIGHBOUR: 'it returns false'. Refute it at one input. -/
def tiereditGluesWrong : ChangeSpec := { name := "tiereditGlues", fn := fun _ => fun
  | [d1, d2, d3] => { results := [.lit (.bool false)], args := [d1, d2, d3] }
  | _ => none }
def TiereditGluesWrongFalsely : Prop := tiereditGluesRow.holds Tryz.pinned (OpenSpec.ofChange tiereditGluesWrong)

/-- 'langdoclaw13.TiereditWhole': WHATEVER THE INPUT: true; the input reads as it did. -/
def tiereditWholeSpec : ChangeSpec := { name := "tiereditWhole", fn := fun _ => fun
  | [d1, d2] => { results := [.lit (.bool true)], args := [d1, d2] }
  | _ => none }
def tiereditWholeRow : OpenClaim := { program := "ytnflnfmbgghbeaagreatdoor", sum := "de3b4ee43a6bff347c817eee38b41ab761dfd5fe3f59dc227964442d5e64080b", func := "langdoc/langdoclaw13.TiereditWhole", spec := "tiereditWhole", inPlace := ["slices.overlaps[langdoc/api.Note]"], unfollowed := true, recurses := true, named := ["unicode/utf8.first", "unicode/utf8.acceptRanges"], apart := false, laid := [("unicode/utf8.acceptRanges", laid_unicode_utf8_acceptRanges), ("unicode/utf8.first", laid_unicode_utf8_first)] }
def TiereditWholeSaid : Prop := tiereditWholeRow.holds Tryz.pinned (OpenSpec.ofChange tiereditWholeSpec)

/-- ITS FALSE NEIGHBOUR: 'it returns false'. Refute it at one input. -/
def tiereditWholeWrong : ChangeSpec := { name := "tiereditWhole", fn := fun _ => fun
  | [d1, d2] => { results := [.lit (.bool false)], args := [d1, d2] }
  | _ => none }
def TiereditWholeWrongFalsely : Prop := tiereditWholeRow.holds Tryz.pinned (OpenSpec.ofChange tiereditWholeWrong)

/-- 'langdoclaw13.TiereditRight': WHATEVER THE INPUT: true; the input reads as it did. -/
def tiereditRightSpec : ChangeSpec := { name := "tiereditRight", fn := fun _ => fun
  | [d1, d2] => { results := [.lit (.bool true)], args := [d1, d2] }
  | _ => none }
def tiereditRightRow : OpenClaim := { program := "ytnflnfmbgghbeaagreatdoor", sum := "de3b4ee43a6bff347c817eee38b41ab761dfd5fe3f59dc227964442d5e64080b", func := "langdoc/langdoclaw13.TiereditRight", spec := "tiereditRight", inPlace := ["slices.overlaps[langdoc/api.Note]"], unfollowed := true, recurses := true, named := ["unicode/utf8.first", "unicode/utf8.acceptRanges"], apart := false, laid := [("unicode/utf8.acceptRanges", laid_unicode_utf8_acceptRanges), ("unicode/utf8.first", laid_unicode_utf8_first)] }
def TiereditRightSaid : Prop := tiereditRightRow.holds Tryz.pinned (OpenSpec.ofChange tiereditRightSpec)

/-- ITS FALSE NEIGHBOUR: 'it returns false'. Refute it at one input. -/
def tiereditRightWrong : ChangeSpec := { name := "tiereditRight", fn := fun _ => fun
  | [d1, d2] => { results := [.lit (.bool false)], args := [d1, d2] }
  | _ => none }
def TiereditRightWrongFalsely : Prop := tiereditRightRow.holds Tryz.pinned (OpenSpec.ofChange tiereditRightWrong)

/- THE SECOND FORM. 'bulk': how many values and letters a reading holds, each counted each time it is reached (what is shared counts as often as it is met; a slice's spare places count too). A statement '..UptoSaid' is the law's where the arguments, and the package variables that the reading takes, are together of bulk at most 1048576: NARROWER than '..Said'. Prove '..Said' where nothing that the law and all that it calls make is longer than what came in: it says more and counts as full. Else prove '..UptoSaid'. A law counts once. -/
mutual
def uptoBulk {H : Type} : DataW H → Nat
  | .lit (.string bytes) => bytes.length + 1
  | .lit _ => 1
  | .nil => 1
  | .ptr d => uptoBulk d + 1
  | .slice elems spare => uptoBulkAll elems + uptoBulkAll spare + 1
  | .agg parts => uptoBulkAll parts + 1
  | .iface _ d => uptoBulk d + 1
  | .map entries => uptoBulkEntries entries + 1
  | .held _ => 1
def uptoBulkAll {H : Type} : List (DataW H) → Nat
  | [] => 0
  | d :: r => uptoBulk d + uptoBulkAll r
def uptoBulkEntries {H : Type} : List (Lit × DataW H) → Nat
  | [] => 0
  | x :: r => uptoBulkEntry x + uptoBulkEntries r
def uptoBulkEntry {H : Type} : Lit × DataW H → Nat
  | (.string bytes, d) => bytes.length + uptoBulk d + 1
  | (_, d) => uptoBulk d + 1
 end
def uptoSmall : (H : Type) → List (DataW H) → Bool := fun _ ds => decide (uptoBulkAll ds ≤ 1048576)
def OpenSpec.upto (s : _root_.Go.ChangeSpec) : _root_.Go.OpenSpec := { _root_.Go.OpenSpec.ofChange s with cond := some uptoSmall }

/-- 'langdoclaw13.TiereditDrops', WHERE WHAT IT READS IS OF BULK AT MOST 1048576: true; the input reads as it did. -/
def tiereditDropsUptoRow : OpenClaim := { program := "ytnflnfmbgghbeaagreatdoor", sum := "de3b4ee43a6bff347c817eee38b41ab761dfd5fe3f59dc227964442d5e64080b", func := "langdoc/langdoclaw13.TiereditDrops", spec := "tiereditDrops", inPlace := ["slices.overlaps[langdoc/api.Note]"], unfollowed := true, recurses := true, named := ["unicode/utf8.first", "unicode/utf8.acceptRanges"], apart := false, laid := [("unicode/utf8.acceptRanges", laid_unicode_utf8_acceptRanges), ("unicode/utf8.first", laid_unicode_utf8_first)], narrowed := true }
def TiereditDropsUptoSaid : Prop := tiereditDropsUptoRow.holds Tryz.pinned (OpenSpec.upto tiereditDropsSpec)

/-- 'langdoclaw13.TiereditCuts', WHERE WHAT IT READS IS OF BULK AT MOST 1048576: true; the input reads as it did. -/
def tiereditCutsUptoRow : OpenClaim := { program := "ytnflnfmbgghbeaagreatdoor", sum := "de3b4ee43a6bff347c817eee38b41ab761dfd5fe3f59dc227964442d5e64080b", func := "langdoc/langdoclaw13.TiereditCuts", spec := "tiereditCuts", inPlace := ["slices.overlaps[langdoc/api.Note]"], unfollowed := true, recurses := true, named := ["unicode/utf8.first", "unicode/utf8.acceptRanges"], apart := false, laid := [("unicode/utf8.acceptRanges", laid_unicode_utf8_acceptRanges), ("unicode/utf8.first", laid_unicode_utf8_first)], narrowed := true }
def TiereditCutsUptoSaid : Prop := tiereditCutsUptoRow.holds Tryz.pinned (OpenSpec.upto tiereditCutsSpec)

/-- 'langdoclaw13.TiereditSubtree', WHERE WHAT IT READS IS OF BULK AT MOST 1048576: true; the input reads as it did. -/
def tiereditSubtreeUptoRow : OpenClaim := { program := "ytnflnfmbgghbeaagreatdoor", sum := "de3b4ee43a6bff347c817eee38b41ab761dfd5fe3f59dc227964442d5e64080b", func := "langdoc/langdoclaw13.TiereditSubtree", spec := "tiereditSubtree", inPlace := ["slices.overlaps[langdoc/api.Note]"], unfollowed := true, recurses := true, named := ["unicode/utf8.first", "unicode/utf8.acceptRanges"], apart := false, laid := [("unicode/utf8.acceptRanges", laid_unicode_utf8_acceptRanges), ("unicode/utf8.first", laid_unicode_utf8_first)], narrowed := true }
def TiereditSubtreeUptoSaid : Prop := tiereditSubtreeUptoRow.holds Tryz.pinned (OpenSpec.upto tiereditSubtreeSpec)

/-- 'langdoclaw13.TiereditWrites', WHERE WHAT IT READS IS OF BULK AT MOST 1048576: true; the input reads as it did. -/
def tiereditWritesUptoRow : OpenClaim := { program := "ytnflnfmbgghbeaagreatdoor", sum := "de3b4ee43a6bff347c817eee38b41ab761dfd5fe3f59dc227964442d5e64080b", func := "langdoc/langdoclaw13.TiereditWrites", spec := "tiereditWrites", inPlace := ["slices.overlaps[langdoc/api.Note]"], unfollowed := true, recurses := true, named := ["unicode/utf8.first", "unicode/utf8.acceptRanges"], apart := false, laid := [("unicode/utf8.acceptRanges", laid_unicode_utf8_acceptRanges), ("unicode/utf8.first", laid_unicode_utf8_first)], narrowed := true }
def TiereditWritesUptoSaid : Prop := tiereditWritesUptoRow.holds Tryz.pinned (OpenSpec.upto tiereditWritesSpec)

/-- 'langdoclaw13.TiereditOne', WHERE WHAT IT READS IS OF BULK AT MOST 1048576: true; the input reads as it did. -/
def tiereditOneUptoRow : OpenClaim := { program := "ytnflnfmbgghbeaagreatdoor", sum := "de3b4ee43a6bff347c817eee38b41ab761dfd5fe3f59dc227964442d5e64080b", func := "langdoc/langdoclaw13.TiereditOne", spec := "tiereditOne", inPlace := ["slices.overlaps[langdoc/api.Note]"], unfollowed := true, recurses := true, named := ["unicode/utf8.first", "unicode/utf8.acceptRanges"], apart := false, laid := [("unicode/utf8.acceptRanges", laid_unicode_utf8_acceptRanges), ("unicode/utf8.first", laid_unicode_utf8_first)], narrowed := true }
def TiereditOneUptoSaid : Prop := tiereditOneUptoRow.holds Tryz.pinned (OpenSpec.upto tiereditOneSpec)

/-- 'langdoclaw13.TiereditAdds', WHERE WHAT IT READS IS OF BULK AT MOST 1048576: true; the input reads as it did. -/
def tiereditAddsUptoRow : OpenClaim := { program := "ytnflnfmbgghbeaagreatdoor", sum := "de3b4ee43a6bff347c817eee38b41ab761dfd5fe3f59dc227964442d5e64080b", func := "langdoc/langdoclaw13.TiereditAdds", spec := "tiereditAdds", inPlace := ["slices.overlaps[langdoc/api.Note]"], unfollowed := true, recurses := true, named := ["unicode/utf8.first", "unicode/utf8.acceptRanges"], apart := false, laid := [("unicode/utf8.acceptRanges", laid_unicode_utf8_acceptRanges), ("unicode/utf8.first", laid_unicode_utf8_first)], narrowed := true }
def TiereditAddsUptoSaid : Prop := tiereditAddsUptoRow.holds Tryz.pinned (OpenSpec.upto tiereditAddsSpec)

/-- 'langdoclaw13.TiereditUndone', WHERE WHAT IT READS IS OF BULK AT MOST 1048576: true; the input reads as it did. -/
def tiereditUndoneUptoRow : OpenClaim := { program := "ytnflnfmbgghbeaagreatdoor", sum := "de3b4ee43a6bff347c817eee38b41ab761dfd5fe3f59dc227964442d5e64080b", func := "langdoc/langdoclaw13.TiereditUndone", spec := "tiereditUndone", inPlace := ["slices.overlaps[langdoc/api.Note]"], unfollowed := true, recurses := true, named := ["unicode/utf8.first", "unicode/utf8.acceptRanges"], apart := false, laid := [("unicode/utf8.acceptRanges", laid_unicode_utf8_acceptRanges), ("unicode/utf8.first", laid_unicode_utf8_first)], narrowed := true }
def TiereditUndoneUptoSaid : Prop := tiereditUndoneUptoRow.holds Tryz.pinned (OpenSpec.upto tiereditUndoneSpec)

/-- 'langdoclaw13.TiereditGlues', WHERE WHAT IT READS IS OF BULK AT MOST 1048576: true; the input reads as it did. -/
def tiereditGluesUptoRow : OpenClaim := { program := "ytnflnfmbgghbeaagreatdoor", sum := "de3b4ee43a6bff347c817eee38b41ab761dfd5fe3f59dc227964442d5e64080b", func := "langdoc/langdoclaw13.TiereditGlues", spec := "tiereditGlues", inPlace := ["slices.overlaps[langdoc/api.Note]"], unfollowed := true, recurses := true, named := ["unicode/utf8.first", "unicode/utf8.acceptRanges"], apart := false, laid := [("unicode/utf8.acceptRanges", laid_unicode_utf8_acceptRanges), ("unicode/utf8.first", laid_unicode_utf8_first)], narrowed := true }
def TiereditGluesUptoSaid : Prop := tiereditGluesUptoRow.holds Tryz.pinned (OpenSpec.upto tiereditGluesSpec)

/-- 'langdoclaw13.TiereditWhole', WHERE WHAT IT READS IS OF BULK AT MOST 1048576: true; the input reads as it did. -/
def tiereditWholeUptoRow : OpenClaim := { program := "ytnflnfmbgghbeaagreatdoor", sum := "de3b4ee43a6bff347c817eee38b41ab761dfd5fe3f59dc227964442d5e64080b", func := "langdoc/langdoclaw13.TiereditWhole", spec := "tiereditWhole", inPlace := ["slices.overlaps[langdoc/api.Note]"], unfollowed := true, recurses := true, named := ["unicode/utf8.first", "unicode/utf8.acceptRanges"], apart := false, laid := [("unicode/utf8.acceptRanges", laid_unicode_utf8_acceptRanges), ("unicode/utf8.first", laid_unicode_utf8_first)], narrowed := true }
def TiereditWholeUptoSaid : Prop := tiereditWholeUptoRow.holds Tryz.pinned (OpenSpec.upto tiereditWholeSpec)

/-- 'langdoclaw13.TiereditRight', WHERE WHAT IT READS IS OF BULK AT MOST 1048576: true; the input reads as it did. -/
def tiereditRightUptoRow : OpenClaim := { program := "ytnflnfmbgghbeaagreatdoor", sum := "de3b4ee43a6bff347c817eee38b41ab761dfd5fe3f59dc227964442d5e64080b", func := "langdoc/langdoclaw13.TiereditRight", spec := "tiereditRight", inPlace := ["slices.overlaps[langdoc/api.Note]"], unfollowed := true, recurses := true, named := ["unicode/utf8.first", "unicode/utf8.acceptRanges"], apart := false, laid := [("unicode/utf8.acceptRanges", laid_unicode_utf8_acceptRanges), ("unicode/utf8.first", laid_unicode_utf8_first)], narrowed := true }
def TiereditRightUptoSaid : Prop := tiereditRightUptoRow.holds Tryz.pinned (OpenSpec.upto tiereditRightSpec)

end Rows
end Go.Proofs.YtnflnfmbgghbeaaGreatDoor
